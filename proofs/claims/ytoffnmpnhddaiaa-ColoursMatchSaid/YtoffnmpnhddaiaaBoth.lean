/- dyeref1.both, for whatever closure. -/
import Derived.Test.YtoffnmpnhddaiaaCln
import Derived.Test.YtoffnmpnhddaiaaEch
import Derived.Deep.RegionWith
namespace Go.Proofs.Ytoffnmpnhddaiaa
open Go.RowKit

/-- A closure that makes single k of two frames' singles. -/
structure Pairs (W : World) (cf : FuncId) (cap : Array Value) (N : Nat) (xs ys : List Nat) (V : Nat → Nat) : Prop where
  enter : ∀ (args : Array Value) (u : World), (callFunc cf args).run Try.prog u = .ok (.enter cf args) u
  makes : ∀ (k : Nat) (u : World), k < N → Below W.heap.size W u →
    Calls Try.prog cf (#[.float .f32 (xs.getD k 0), .float .f32 (ys.getD k 0), .agg #[.float .f32 (xs.getD (4 * (k / 4)) 0), .float .f32 (xs.getD (4 * (k / 4) + 1) 0), .float .f32 (xs.getD (4 * (k / 4) + 2) 0), .float .f32 (xs.getD (4 * (k / 4) + 3) 0)], .int .i64 ((k / 4 : Nat) : Int)] ++ cap) u
      fun e u' => e = .returned (.float .f32 (V k)) ∧ Below u.heap.size u u'
theorem Pairs.keep {W W' : World} {cf : FuncId} {cap : Array Value} {N : Nat} {xs ys : List Nat} {V : Nat → Nat} (m : Pairs W cf cap N xs ys V) (hb : Below W.heap.size W W') : Pairs W' cf cap N xs ys V :=
  ⟨m.enter, fun k u hk hu => m.makes k u hk (hb.trans (hu.mono hb.size))⟩

/-- What both has after n singles. -/
def BothInv (W : World) (x y w h x2 y2 w2 h2 : Int) (b1 o1 c1 b2 o2 c2 N : Nat) (V : Nat → Nat) (n : Nat) (wr : World) : Prop :=
  ∃ v, Bx wr W.heap.size 26 #[.int .i64 x, .int .i64 y, .int .i64 w, .int .i64 h, .slice (some ⟨b1, o1, none⟩) N c1] ∧ Bx wr (W.heap.size + 1) 26 #[.int .i64 x2, .int .i64 y2, .int .i64 w2, .int .i64 h2, .slice (some ⟨b2, o2, none⟩) N c2] ∧
    Bx wr (W.heap.size + 1 + 1) 26 #[.int .i64 0, .int .i64 0, .int .i64 0, .int .i64 0, .slice none 0 0] ∧ Bx wr (W.heap.size + 1 + 1 + 1) 26 #[.int .i64 x, .int .i64 y, .int .i64 w, .int .i64 h, v] ∧
    wr.ownsRow (W.heap.size + 4) 33 1 v n (((List.range n).map fun k => canon (V k)).map (Value.float .f32)) ∧ Below W.heap.size W wr
theorem BothInv.keep {W wr wr' : World} {x y w h x2 y2 w2 h2 : Int} {b1 o1 c1 b2 o2 c2 N : Nat} {V : Nat → Nat} {n : Nat} (m : BothInv W x y w h x2 y2 w2 h2 b1 o1 c1 b2 o2 c2 N V n wr) (hb : Below wr.heap.size wr wr') : BothInv W x y w h x2 y2 w2 h2 b1 o1 c1 b2 o2 c2 N V n wr' := by
  obtain ⟨v, h0, h1, h2, h3, h4, h5⟩ := m
  exact ⟨v, h0.keep hb, h1.keep hb, h2.keep hb, h3.keep hb, own_below h4 hb, h5.trans (hb.mono h5.size)⟩

theorem canon_snoc (V : Nat → Nat) (n : Nat) : ((List.range (n + 1)).map fun k => canon (V k)) = ((List.range n).map fun k => canon (V k)) ++ [canon (V n)] := by
  rw [List.range_succ, List.map_append]
  rfl

set_option maxRecDepth 100000 in
set_option maxHeartbeats 4000000 in
theorem ref_both (x y w h x2 y2 w2 h2 : Int) (M N b1 o1 c1 b2 o2 c2 : Nat) (xs ys : List Nat) (cf : FuncId) (cap : Array Value) (V : Nat → Nat) (W : World) (hM1 : 0 < M) (hM2 : M ≤ 65536) (hN : N = 4 * M) (hc1 : N ≤ c1) (hxs : xs.length = N) (hys : ys.length = N) (r1 : Rd W b1 o1 xs) (r2 : Rd W b2 o2 ys)
    (hP : Pairs W cf cap N xs ys V) :
    Calls Try.prog 101 #[.agg #[.int .i64 x, .int .i64 y, .int .i64 w, .int .i64 h, .slice (some ⟨b1, o1, none⟩) N c1], .agg #[.int .i64 x2, .int .i64 y2, .int .i64 w2, .int .i64 h2, .slice (some ⟨b2, o2, none⟩) N c2], .func (.func cf) #[] cap] W fun e w' =>
      ∃ g c, e = .returned (.agg #[.int .i64 x, .int .i64 y, .int .i64 w, .int .i64 h, .slice (some ⟨g, 0, none⟩) N c]) ∧ N ≤ c ∧ W.heap.size ≤ g ∧ Rd w' g 0 ((List.range N).map fun k => canon (V k)) ∧ Below W.heap.size W w' := by
  obtain ⟨i0, hi, hz0, hz1, hz2⟩ := info_parts infoF
  have Hl := Lib.hid (And.intro hxs (And.intro hys hN))
  have hcf := hP.enter
  have hb1 := r1.lt
  have hb2 := r2.lt
  have hN2 : N ≤ 262144 := by omega
  have hN1 : 0 < N := by omega
  clear hxs hys hN
  go_enter Try.func101, Try.ntmps101
  go_wp2_with fail
  refine name_world ?_
  intro wb hwb
  have inv0 : BothInv W x y w h x2 y2 w2 h2 b1 o1 c1 b2 o2 c2 N V 0 wb := by
    refine ⟨.slice none 0 0, ?_, ?_, ?_, ?_, World.ownsRow_nil _ _ _ _, ?_⟩
    · rw [hwb]; exact Bx.alloc (Bx.alloc (Bx.alloc (Bx.new _ _ _) _) _) _
    · rw [hwb]; exact Bx.alloc (Bx.alloc (Bx.at _ (by simp)) _) _
    · rw [hwb]; exact Bx.alloc (Bx.at _ (by simp)) _
    · rw [hwb]; exact Bx.at _ (by simp)
    · rw [hwb]; exact bnew (bnew (bnew (bnew (Below.refl _ W))))
  clear hwb
  obtain ⟨_, z0, _, _, _, _, _⟩ := id inv0
  obtain ⟨q0, f0, l0⟩ := z0.all
  go_wp2_with fail
  clear z0 q0 f0 l0
  go_loopw [16] (fun s wr => ∃ k : Nat, k ≤ N ∧ s = .int .i64 (k : Int) ∧ BothInv W x y w h x2 y2 w2 h2 b1 o1 c1 b2 o2 c2 N V k wr) (fun s _ => N - (intOf s).toNat)
  case atStart => exact ⟨0, by omega, by simp, inv0⟩
  case round =>
    clear inv0
    obtain ⟨k, hk, rfl, hinv⟩ := hrel
    by_cases hlt : k < N
    · have hki : (k : Int) < (N : Int) := by omega
      obtain ⟨v, z0, z1, z2, z3, hown, hbl⟩ := id hinv
      obtain ⟨q0, f0, l0⟩ := z0.all
      have hrd := r1.keep hbl
      have hk4 : 4 * (k / 4) + 3 < N := by have := Hl.out.2.2; omega
      have hb1' : b1 < wr.heap.size := hrd.lt
      have hc1' : ∀ c, c < 4 → wr.cell? ⟨b1, o1 + (4 * (k / 4) + c), none⟩ = some (.float .f32 (xs.getD (4 * (k / 4) + c) 0)) := fun c hc => hrd.cell _ (by rw [Hl.out.1]; omega)
      have e0 : wr.cell? ⟨b1, o1 + k / 4 * 4, none⟩ = some (.float .f32 (xs.getD (4 * (k / 4)) 0)) := by have := hc1' 0 (by omega); rw [Nat.add_zero] at this; rwa [Nat.mul_comm (k / 4) 4]
      have e1 : wr.cell? ⟨b1, o1 + k / 4 * 4 + 1, none⟩ = some (.float .f32 (xs.getD (4 * (k / 4) + 1) 0)) := by have := hc1' 1 (by omega); rw [← Nat.add_assoc] at this; rwa [Nat.mul_comm (k / 4) 4]
      have e2 : wr.cell? ⟨b1, o1 + k / 4 * 4 + 2, none⟩ = some (.float .f32 (xs.getD (4 * (k / 4) + 2) 0)) := by have := hc1' 2 (by omega); rw [← Nat.add_assoc] at this; rwa [Nat.mul_comm (k / 4) 4]
      have e3 : wr.cell? ⟨b1, o1 + k / 4 * 4 + 3, none⟩ = some (.float .f32 (xs.getD (4 * (k / 4) + 3) 0)) := by have := hc1' 3 (by omega); rw [← Nat.add_assoc] at this; rwa [Nat.mul_comm (k / 4) 4]
      clear hc1'
      go_wp2_with fail
      refine name_world ?_
      intro wn hwn
      have B2 : Below W.heap.size W wn := by rw [hwn]; exact bnew hbl
      have yp : Bx wn wr.heap.size 35 #[.float .f32 (xs.getD (4 * (k / 4)) 0), .float .f32 (xs.getD (4 * (k / 4) + 1) 0), .float .f32 (xs.getD (4 * (k / 4) + 2) 0), .float .f32 (xs.getD (4 * (k / 4) + 3) 0)] := by rw [hwn]; exact Bx.new _ _ _
      have Bn : Below wr.heap.size wr wn := by rw [hwn]; exact bnew (Below.refl _ _)
      have y0 := z0.keep Bn
      have y1 := z1.keep Bn
      have y2 := z2.keep Bn
      have y3 := z3.keep Bn
      have hown2 := own_below hown Bn
      have s1 := r1.keep B2
      have s2 := r2.keep B2
      clear hwn z0 z1 z2 z3 hown Bn q0 f0 l0 e0 e1 e2 e3 hrd hb1' hinv hk4
      refine wp_region_rel 19 (fun q u w' => if q = 18 then ∃ g, u = .slice (some ⟨g, 0, none⟩) 1 1 ∧ wn.heap.size ≤ g ∧ Bx w' g 33 #[.float .f32 (canon (V k))] else u = [.pointer (some ⟨W.heap.size + 1 + 1 + 1, 4, none⟩), v, .func (.func cf) #[] cap, .pointer (some ⟨W.heap.size, 4, none⟩), .slice (some ⟨b1, o1, none⟩) N c1, .int .i64 k, .pointer (some ⟨b1, o1 + k, none⟩), .float .f32 (xs.getD k 0), .pointer (some ⟨W.heap.size + 1, 4, none⟩), .slice (some ⟨b2, o2, none⟩) N c2, .int .i64 k, .pointer (some ⟨b2, o2 + k, none⟩), .float .f32 (ys.getD k 0), .agg #[.float .f32 (xs.getD (4 * (k / 4)) 0), .float .f32 (xs.getD (4 * (k / 4) + 1) 0), .float .f32 (xs.getD (4 * (k / 4) + 2) 0), .float .f32 (xs.getD (4 * (k / 4) + 3) 0)], .int .i64 k, .int .i64 ((k / 4 : Nat) : Int), .float .f32 (V k), .float .f32 (canon (V k)), undef].getD q undef) (fun _ => false) (fun w' => Below wn.heap.size wn w') (by kernel_rfl) (by kernel_rfl)
        (fun _ _ h e => e.trans (h.mono e.size)) (fun t u a b hb h => ?_) (Below.refl _ _).drew ?_ ?_
      · split
        · rename_i h4
          rw [if_pos h4] at h
          obtain ⟨g, e1, e2, e3⟩ := h
          exact ⟨g, e1, e2, e3.keep hb⟩
        · rename_i h4
          rw [if_neg h4] at h
          exact h
      · intro t op ht hop
        rcases (by omega : t = 0 ∨ t = 1 ∨ t = 2 ∨ t = 3 ∨ t = 4 ∨ t = 5 ∨ t = 6 ∨ t = 7 ∨ t = 8 ∨ t = 9 ∨ t = 10 ∨ t = 11 ∨ t = 12 ∨ t = 13 ∨ t = 14 ∨ t = 15 ∨ t = 16 ∨ t = 17 ∨ t = 18) with rfl | rfl | rfl | rfl | rfl | rfl | rfl | rfl | rfl | rfl | rfl | rfl | rfl | rfl | rfl | rfl | rfl | rfl | rfl
        all_goals simp only [List.getElem?_cons_zero, List.getElem?_cons_succ, Option.some.injEq] at hop
        all_goals subst hop
        all_goals intro a wx hE hag hdep
        · have e0 := slot_eq (hag 7 rfl)
          exact rel_pure _ rfl rfl (by simp [go_sem, e0])
        · have e0 := slot_eq (hdep ⟨0, .data⟩ (by simp) rfl)
          have hq := (y3.keep hE).all.1 4
          exact rel_pure _ rfl rfl (by simp [go_sem, e0, hq])
        · have e0 := slot_eq (hag 2 rfl)
          exact rel_pure _ rfl rfl (by simp [go_sem, e0])
        · have e0 := slot_eq (hag 3 rfl)
          exact rel_pure _ rfl rfl (by simp [go_sem, e0])
        · have e0 := slot_eq (hdep ⟨3, .data⟩ (by simp) rfl)
          have hq := (y0.keep hE).all.1 4
          exact rel_pure _ rfl rfl (by simp [go_sem, e0, hq])
        · have e0 := slot_eq (hag 8 rfl)
          exact rel_pure _ rfl rfl (by simp [go_sem, e0])
        · have e0 := slot_eq (hdep ⟨4, .data⟩ (by simp) rfl)
          have e1 := slot_eq (hdep ⟨5, .data⟩ (by simp) rfl)
          exact rel_pure _ rfl rfl (by simp [go_sem, e0, e1, hki])
        · have e0 := slot_eq (hdep ⟨6, .data⟩ (by simp) rfl)
          have hq := (s1.keep hE).cell k (by rw [Hl.out.1]; exact hlt)
          exact rel_pure _ rfl rfl (by simp [go_sem, e0, hq])
        · have e0 := slot_eq (hag 4 rfl)
          exact rel_pure _ rfl rfl (by simp [go_sem, e0])
        · have e0 := slot_eq (hdep ⟨8, .data⟩ (by simp) rfl)
          have hq := (y1.keep hE).all.1 4
          exact rel_pure _ rfl rfl (by simp [go_sem, e0, hq])
        · have e0 := slot_eq (hag 8 rfl)
          exact rel_pure _ rfl rfl (by simp [go_sem, e0])
        · have e0 := slot_eq (hdep ⟨9, .data⟩ (by simp) rfl)
          have e1 := slot_eq (hdep ⟨10, .data⟩ (by simp) rfl)
          exact rel_pure _ rfl rfl (by simp [go_sem, e0, e1, hki])
        · have e0 := slot_eq (hdep ⟨11, .data⟩ (by simp) rfl)
          have hq := (s2.keep hE).cell k (by rw [Hl.out.2.1]; exact hlt)
          exact rel_pure _ rfl rfl (by simp [go_sem, e0, hq])
        · have e0 := slot_eq (hag 9 rfl)
          have hq := (yp.keep hE).all.1
          exact rel_pure _ rfl rfl (by simp [go_sem, e0, hq])
        · have e0 := slot_eq (hag 8 rfl)
          exact rel_pure _ rfl rfl (by simp [go_sem, e0])
        · have e0 := slot_eq (hdep ⟨14, .data⟩ (by simp) rfl)
          have hw : IntKind.i64.wrap ((k : Int) / 4) = (k : Int) / 4 := IntWalk.i64_in _ (by omega)
          exact rel_pure _ rfl rfl (by simp [go_sem, e0, hw])
        · have e0 := slot_eq (hdep ⟨2, .data⟩ (by simp) rfl)
          have e1 := slot_eq (hdep ⟨7, .data⟩ (by simp) rfl)
          have e2 := slot_eq (hdep ⟨12, .data⟩ (by simp) rfl)
          have e3 := slot_eq (hdep ⟨13, .data⟩ (by simp) rfl)
          have e4 := slot_eq (hdep ⟨15, .data⟩ (by simp) rfl)
          refine rel_call (f := cf) (args := #[.float .f32 (xs.getD k 0), .float .f32 (ys.getD k 0), .agg #[.float .f32 (xs.getD (4 * (k / 4)) 0), .float .f32 (xs.getD (4 * (k / 4) + 1) 0), .float .f32 (xs.getD (4 * (k / 4) + 2) 0), .float .f32 (xs.getD (4 * (k / 4) + 3) 0)], .int .i64 ((k / 4 : Nat) : Int)] ++ cap) (by simp [execOp, resolve, Deferred.ofValue, invoke, Act.eval, e0, e1, e2, e3, e4, hcf]) rfl ?_
          refine (hP.makes k wx hlt (B2.trans (hE.mono B2.size))).mono ?_
          rintro e w' ⟨rfl, hb⟩
          exact ⟨_, rfl, rfl, hb⟩
        · have e0 := slot_eq (hdep ⟨16, .data⟩ (by simp) rfl)
          refine rel_call (f := 65) (args := #[.float .f32 (V k)]) (run_go_call Try.func65 (by kernel_rfl) (by kernel_rfl) _ _ _ _ _ _ _ _ _ _ (by simp [Act.eval, e0])) rfl ?_
          refine (ref_Fix _ wx).mono ?_
          rintro e w' ⟨rfl, rfl⟩
          exact ⟨_, rfl, rfl, Below.refl _ _⟩
        · have e0 := slot_eq (hdep ⟨17, .data⟩ (by simp) rfl)
          refine rel_val (v := .slice (some ⟨wx.heap.size, 0, none⟩) 1 1) (w' := wx.alloc (.cells #[.float .f32 (canon (V k))] 33)) (by simp [go_sem, e0]) ⟨_, rfl, hE.size, Bx.new _ _ _⟩ ((Below.refl _ _).alloc (Nat.le_refl _) _) (fun h => by cases h)
      · intro vs wx hE hvs _
        have k0 := hvs 1 (by omega)
        obtain ⟨g, k4, hg, xg⟩ := hvs 18 (by omega)
        simp only [show ¬ (1 = 18) by omega, if_false] at k0
        simp only [List.drop_succ_cons, List.drop_zero, putAll, dstAt, List.getElem?_toArray, List.getElem?_cons_zero, List.getElem?_cons_succ, Option.bind_some, Act.put, List.setIfInBounds_toArray, List.set_cons_zero, List.set_cons_succ, k0, k4]
        clear hvs k0 k4
        have hownx := own_below hown2 hE
        have u0 := y0.keep hE
        have u1 := y1.keep hE
        have u2 := y2.keep hE
        have u3 := y3.keep hE
        have hB := B2.trans (hE.mono B2.size)
        have hbs := hB.size
        have hl3 := u3.lt
        have hgsz := xg.lt
        refine wpList_append_own _ rfl (.tmp 32) (.tmp 49) 24 rfl (W.heap.size + 4) 33 i0 (.float .f32 0) 1 4 Try.underlying24 hi hz0 hz1 hz2 rfl (by decide) v _ _ rfl hownx ⟨g, 0, none⟩ 1 1 [.float .f32 (canon (V k))] rfl rfl ?c1 ?c2 ?c3 ?c4 ?c5 ?_
        case c1 =>
          intro j u hu
          match j with
          | 0 => simp at hu; subst hu; exact xg.all.1 0
          | j + 1 => simp at hu
        case c2 => intro u hu; simp at hu; subst hu; rfl
        case c3 => unfold maxLen; omega
        case c4 => omega
        case c5 => omega
        · intro v' w5 hown5 hgrow hnil
          obtain ⟨g5, cap5, rfl, hg5, hl5, _⟩ := own_form hown5 (by omega)
          have hne0 : v.ownBlock ≠ some W.heap.size := fun e => by have := (hownx.lt _ e).1; omega
          have hne1 : v.ownBlock ≠ some (W.heap.size + 1) := fun e => by have := (hownx.lt _ e).1; omega
          have hne2 : v.ownBlock ≠ some (W.heap.size + 1 + 1) := fun e => by have := (hownx.lt _ e).1; omega
          have hne3 : v.ownBlock ≠ some (W.heap.size + 1 + 1 + 1) := fun e => by have := (hownx.lt _ e).1; omega
          have t0 := u0.grown hgrow hne0
          have t1 := u1.grown hgrow hne1
          have t2 := u2.grown hgrow hne2
          have t3 := u3.grown hgrow hne3
          have B5 : Below W.heap.size W w5 := hB.grown hgrow hbs (fun k hk => by have := (hownx.lt _ hk).1; omega)
          rw [← List.map_singleton (f := Value.float .f32), ← List.map_append, ← canon_snoc] at hown5
          clear hownx y0 y1 y2 y3 u0 u1 u2 u3 hB hgrow hnil hown2 hE xg hne0 hne1 hne2 hne3 hbs hgsz s1 s2 yp B2
          obtain ⟨q3, f3, l3⟩ := t3.all
          go_wp2_with fail
          go_roundw
          case rel => exact ⟨k + 1, by omega, by go_num, ⟨_, t0.other _ _ (by dsimp only; omega), t1.other _ _ (by dsimp only; omega), t2.other _ _ (by dsimp only; omega), by simpa using t3.set 4 _, own_set hown5 (by omega), bput (by omega) B5⟩⟩
          case measure => simp [intOf]; omega
    · have hkN : k = N := by omega
      subst hkN
      obtain ⟨v, z0, z1, z2, z3, hown, hbl⟩ := hinv
      obtain ⟨g, cp, rfl, hg, hgl, hcp⟩ := own_form hown (by omega)
      have how : Ow wr W.heap.size (.slice (some ⟨g, 0, none⟩) k cp) ((List.range k).map fun k => canon (V k)) := by
        unfold Ow
        rw [List.length_map, List.length_range]
        exact own_mono hown (by omega)
      have hrd := rd_of_ow how (by rw [List.length_map, List.length_range])
      clear how hown
      obtain ⟨q2, f2, l2⟩ := z2.all
      obtain ⟨q3, f3, l3⟩ := z3.all
      go_wp2_with fail
      refine bodyPost_ret (v := .agg #[.int .i64 x, .int .i64 y, .int .i64 w, .int .i64 h, .slice (some ⟨g, 0, none⟩) k cp]) (by simp [results, Try.results101, go_sem, q2]) rfl ⟨g, cp, rfl, hcp, by omega, ?_, ?_⟩
      · refine Only.rd (b := W.heap.size + 1 + 1) ?_ (by omega) hrd
        exact (((((Only.refl _ _).set _ _).set _ _).set _ _).set _ _).set _ _
      · exact bput (by omega) (bput (by omega) (bput (by omega) (bput (by omega) (bput (by omega) hbl))))
end Go.Proofs.Ytoffnmpnhddaiaa
