/- dyeref2.Made, for whatever closure. -/
import Derived.Test.YtckadkobgmnoeaaDoorPln
namespace Go.Proofs.YtckadkobgmnoeaaDoor
open Go.RowKit

theorem own_below {w w' : World} {B : Nat} {e : TypeId} {s : Nat} {v : Value} {n : Nat} {xs : List Value} (h : w.ownsRow B e s v n xs) (hb : Below w.heap.size w w') : w'.ownsRow B e s v n xs := by
  refine ⟨h.1, ?_⟩
  rcases h.2 with h0 | ⟨g, cap, cur, e1, e2, e3, e4⟩
  · exact .inl h0
  · exact .inr ⟨g, cap, cur, e1, e2, (hb.block g (Array.getElem?_eq_some_iff.1 e3).1).trans e3, e4⟩
theorem own_set {w : World} {B b o : Nat} {e : TypeId} {s : Nat} {v u : Value} {n : Nat} {xs : List Value} (h : w.ownsRow B e s v n xs) (hb : b < B) : (w.setCell ⟨b, o, none⟩ u).ownsRow B e s v n xs := by
  refine ⟨h.1, ?_⟩
  rcases h.2 with h0 | ⟨g, cap, cur, e1, e2, e3, e4⟩
  · exact .inl h0
  · exact .inr ⟨g, cap, cur, e1, e2, by rw [Below.heap_setCell _ _ _ _ (by dsimp only; omega)]; exact e3, e4⟩
theorem own_form {w : World} {B : Nat} {e : TypeId} {s : Nat} {v : Value} {n : Nat} {xs : List Value} (h : w.ownsRow B e s v n xs) (hn : 0 < n) : ∃ g cap, v = .slice (some ⟨g, 0, none⟩) n cap ∧ B ≤ g ∧ g < w.heap.size ∧ n ≤ cap := by
  rcases h.2 with ⟨_, h0⟩ | ⟨g, cap, cur, hv, hb, hg, hc, _⟩
  · omega
  · exact ⟨g, cap, hv, hb, (Array.getElem?_eq_some_iff.1 hg).1, hc⟩
theorem own_mono {w : World} {B B' : Nat} {e : TypeId} {s : Nat} {v : Value} {n : Nat} {xs : List Value} (h : w.ownsRow B e s v n xs) (hb : B' ≤ B) : w.ownsRow B' e s v n xs := by
  refine ⟨h.1, ?_⟩
  rcases h.2 with h0 | ⟨g, cap, cur, e1, e2, e3⟩
  · exact .inl h0
  · exact .inr ⟨g, cap, cur, e1, by omega, e3⟩
theorem rd_of_ow {w : World} {B g n c : Nat} {xs : List Nat} (h : Ow w B (.slice (some ⟨g, 0, none⟩) n c) xs) (hl : xs.length = n) : Rd w g 0 xs := by
  rcases h.2 with ⟨h0, _⟩ | ⟨g', cap, cur, hv, hb, hg, hnc, hcm, hcs, htake⟩
  · cases h0
  · obtain ⟨rfl, _, _⟩ : g = g' ∧ n = xs.length ∧ c = cap := by simpa using hv
    refine ⟨(Array.getElem?_eq_some_iff.1 hg).1, fun k hk => ?_⟩
    rw [Nat.zero_add, cell_of_row w g k cur _ (0, 0) hg]
    have h1 : (cur.toList.take (xs.length * 1))[k]? = (xs.map (Value.float .f32))[k]? := by rw [htake]
    rw [List.getElem?_take, if_pos (by omega)] at h1
    simpa [hk] using h1
theorem nm_call {P : Program} {f : FuncId} {args : Array Value} {w0 : World} {Q : Ending → World → Prop} (h : ∀ wb, wb = w0 → Calls P f args wb Q) : Calls P f args w0 Q := h _ rfl
/-- A block that is not the row's stays. -/
theorem Bx.grown {w w' : World} {b : Nat} {T : TypeId} {cs : Array Value} {row : Option Nat} (h : Bx w b T cs) (hg : w.grownBy w' row) (hne : row ≠ some b) : Bx w' b T cs := by
  unfold Bx
  rw [hg.block b h.lt (fun e => hne e.symm)]
  exact h

/-- A closure that makes pixel j * w + i of a region. -/
structure Makes (W : World) (cf : FuncId) (cap : Array Value) (x y : Int) (w h : Nat) (P : Nat → Nat → Nat) : Prop where
  enter : ∀ (args : Array Value) (u : World), (callFunc cf args).run Tryd.prog u = .ok (.enter cf args) u
  makes : ∀ (i j : Nat) (u : World), i < w → j < h → Below W.heap.size W u → Calls Tryd.prog cf (#[.int .i64 (x + i), .int .i64 (y + j)] ++ cap) u fun e u' =>
    e = .returned (.agg #[.float .f32 (P (j * w + i) 0), .float .f32 (P (j * w + i) 1), .float .f32 (P (j * w + i) 2), .float .f32 (P (j * w + i) 3)]) ∧ Below u.heap.size u u'
theorem Makes.keep {W W' : World} {cf : FuncId} {cap : Array Value} {x y : Int} {w h : Nat} {P : Nat → Nat → Nat} (m : Makes W cf cap x y w h P) (hb : Below W.heap.size W W') : Makes W' cf cap x y w h P :=
  ⟨m.enter, fun i j u hi hj hu => m.makes i j u hi hj (hb.trans (hu.mono hb.size))⟩

def madeL (P : Nat → Nat → Nat) (n : Nat) : List Nat := (List.range n).map fun k => canon (P (k / 4) (k % 4))
theorem madeL_len (P : Nat → Nat → Nat) (n : Nat) : (madeL P n).length = n := by simp [madeL]
theorem madeL_succ (P : Nat → Nat → Nat) (p c : Nat) (hc : c < 4) : madeL P (4 * p + c + 1) = madeL P (4 * p + c) ++ [canon (P p c)] := by
  unfold madeL
  rw [List.range_succ, List.map_append]
  have h1 : (4 * p + c) / 4 = p := by omega
  have h2 : (4 * p + c) % 4 = c := by omega
  simp [h1, h2]

/-- An array of four singles, by a number. -/
theorem run_pix_index (F : Nat → Nat) (k : Nat) (hk : k < 4) (w : World) :
    (Instr.index 64 (.agg #[.float .f32 (F 0), .float .f32 (F 1), .float .f32 (F 2), .float .f32 (F 3)]) (.int .i64 (k : Int))).run Tryd.prog w = .ok (.float .f32 (F k)) w := by
  have h0 : (Instr.index 64 (.agg #[.float .f32 (F 0), .float .f32 (F 1), .float .f32 (F 2), .float .f32 (F 3)]) (.int .i64 0)).run Tryd.prog w = .ok (.float .f32 (F 0)) w := by kernel_rfl
  have h1 : (Instr.index 64 (.agg #[.float .f32 (F 0), .float .f32 (F 1), .float .f32 (F 2), .float .f32 (F 3)]) (.int .i64 1)).run Tryd.prog w = .ok (.float .f32 (F 1)) w := by kernel_rfl
  have h2 : (Instr.index 64 (.agg #[.float .f32 (F 0), .float .f32 (F 1), .float .f32 (F 2), .float .f32 (F 3)]) (.int .i64 2)).run Tryd.prog w = .ok (.float .f32 (F 2)) w := by kernel_rfl
  have h3 : (Instr.index 64 (.agg #[.float .f32 (F 0), .float .f32 (F 1), .float .f32 (F 2), .float .f32 (F 3)]) (.int .i64 3)).run Tryd.prog w = .ok (.float .f32 (F 3)) w := by kernel_rfl
  match k, hk with
  | 0, _ => exact h0
  | 1, _ => exact h1
  | 2, _ => exact h2
  | 3, _ => exact h3

/-- What Made has after n singles. -/
def MadeInv (W : World) (x y w h : Int) (P : Nat → Nat → Nat) (n : Nat) (wr : World) : Prop :=
  ∃ v, Bx wr W.heap.size 23 #[.int .i64 x, .int .i64 y, .int .i64 w, .int .i64 h] ∧ Bx wr (W.heap.size + 1) 26 #[.int .i64 0, .int .i64 0, .int .i64 0, .int .i64 0, .slice none 0 0] ∧
    Bx wr (W.heap.size + 1 + 1) 26 #[.int .i64 x, .int .i64 y, .int .i64 w, .int .i64 h, v] ∧ wr.ownsRow (W.heap.size + 3) 39 1 v n ((madeL P n).map (Value.float .f32)) ∧ Below W.heap.size W wr
theorem MadeInv.keep {W wr wr' : World} {x y w h : Int} {P : Nat → Nat → Nat} {n : Nat} (m : MadeInv W x y w h P n wr) (hb : Below wr.heap.size wr wr') : MadeInv W x y w h P n wr' := by
  obtain ⟨v, h1, h2, h3, h4, h5⟩ := m
  exact ⟨v, h1.keep hb, h2.keep hb, h3.keep hb, own_below h4 hb, h5.trans (hb.mono h5.size)⟩

set_option maxRecDepth 100000 in
set_option maxHeartbeats 2000000 in
theorem ref_Made (x y : Int) (w h M : Nat) (cf : FuncId) (cap : Array Value) (P : Nat → Nat → Nat) (W : World) (hM : M = w * h) (hM2 : M ≤ 65536) (x1 : -4000000 ≤ x) (x2 : x ≤ 4000000) (y1 : -4000000 ≤ y) (y2 : y ≤ 4000000) (hw1 : 0 < w) (hw : w ≤ 256) (hh1 : 0 < h) (hh : h ≤ 256)
    (hP : Makes W cf cap x y w h P) :
    Calls Tryd.prog 38 #[.agg #[.int .i64 x, .int .i64 y, .int .i64 w, .int .i64 h], .func (.func cf) #[] cap] W fun e w' =>
      ∃ g c, e = .returned (.agg #[.int .i64 x, .int .i64 y, .int .i64 w, .int .i64 h, .slice (some ⟨g, 0, none⟩) (4 * M) c]) ∧ 4 * M ≤ c ∧ W.heap.size ≤ g ∧ Rd w' g 0 (madeL P (4 * M)) ∧ Below W.heap.size W w' := by
  obtain ⟨i0, hi, hz0, hz1, hz2⟩ := info_parts infoF
  have HM := Lib.hid hM
  have hcf := hP.enter
  clear hM
  go_enter Tryd.func38, Tryd.ntmps38
  go_wp2_with fail
  refine name_world ?_
  intro wb hwb
  have inv0 : MadeInv W x y w h P 0 wb := by
    refine ⟨.slice none 0 0, ?_, ?_, ?_, World.ownsRow_nil _ _ _ _, ?_⟩
    · rw [hwb]; exact Bx.alloc (Bx.alloc (Bx.new _ _ _) _) _
    · rw [hwb]; exact Bx.alloc (Bx.at _ (by simp)) _
    · rw [hwb]; exact Bx.at _ (by simp)
    · rw [hwb]; exact bnew (bnew (bnew (Below.refl _ W)))
  clear hwb
  go_loopw [6] (fun s wr => ∃ j : Nat, j ≤ h ∧ s = .int .i64 (y + (j : Int)) ∧ MadeInv W x y w h P (4 * (j * w)) wr) (fun s _ => (y + h - intOf s).toNat)
  case atStart => exact ⟨0, by omega, by simp, by rw [Nat.zero_mul]; exact inv0⟩
  case round =>
    clear inv0
    obtain ⟨j, hj, rfl, hinv⟩ := hrel
    obtain ⟨v, z0, z1, z2, hown, hbl⟩ := hinv
    by_cases hlt : j < h
    · have hjh : (j : Int) < (h : Int) := by omega
      have inv1 : MadeInv W x y w h P (4 * (j * w) + 0) wr := ⟨v, z0, z1, z2, hown, hbl⟩
      obtain ⟨q0, f0, l0⟩ := z0.all
      clear z1 z2 hown
      go_wp2_with fail
      go_loopw [7] (fun s wr => ∃ i : Nat, i ≤ w ∧ s = .int .i64 (x + (i : Int)) ∧ MadeInv W x y w h P (4 * (j * w + i)) wr) (fun s _ => (x + w - intOf s).toNat)
      case atStart => exact ⟨0, by omega, by simp, inv1⟩
      case round =>
        clear inv1 q0 f0 l0 z0 hbl
        obtain ⟨i, hi0, rfl, hinv⟩ := hrel
        obtain ⟨v, z0, z1, z2, hown, hbl⟩ := hinv
        by_cases hlt2 : i < w
        · have hih : (i : Int) < (w : Int) := by omega
          obtain ⟨q0, f0, l0⟩ := z0.all
          have hsz := hbl.size
          have inv1 : MadeInv W x y w h P (4 * (j * w + i)) wr := ⟨v, z0, z1, z2, hown, hbl⟩
          clear z1 z2 hown
          go_wp2_with fail
          refine (hP.makes i j _ hlt2 hlt (by assumption)).mono ?_
          rintro e w4 ⟨rfl, hb4⟩
          have inv2 := inv1.keep hb4
          clear inv1 hb4 hbl q0 f0 l0 z0
          have hix := fun c hc => run_pix_index (P (j * w + i)) c hc
          go_wp2_with fail
          go_loopw [38] (fun s wr => ∃ c : Nat, c ≤ 4 ∧ s = .int .i64 (c : Int) ∧ MadeInv W x y w h P (4 * (j * w + i) + c) wr) (fun s _ => (4 - intOf s).toNat)
          case atStart => exact ⟨0, by omega, by simp, inv2⟩
          case round =>
            clear inv2
            obtain ⟨c, hc, rfl, hinv⟩ := hrel
            by_cases hlt3 : c < 4
            · have hci : (c : Int) < 4 := by omega
              have hic := hix c hlt3
              obtain ⟨v, z0, z1, z2, hown, hbl⟩ := hinv
              clear hix
              go_wp2_with fail
              have hsz := hbl.size
              have hs2 := z2.lt
              refine wp_region_rel 5 (fun q u w' => if q = 4 then ∃ g, u = .slice (some ⟨g, 0, none⟩) 1 1 ∧ wr.heap.size ≤ g ∧ Bx w' g 39 #[.float .f32 (canon (P (j * w + i) c))] else
                  u = [.pointer (some ⟨W.heap.size + 1 + 1, 4, none⟩), v, .float .f32 (P (j * w + i) c), .float .f32 (canon (P (j * w + i) c))].getD q undef) (fun _ => false) (fun w' => Below wr.heap.size wr w') (by kernel_rfl) (by kernel_rfl)
                (fun _ _ h e => e.trans (h.mono e.size)) (fun t u a b hb h => ?_) (Below.refl _ _).drew ?_ ?_
              · split
                · rename_i h4
                  rw [if_pos h4] at h
                  obtain ⟨g, e1, e2, e3⟩ := h
                  exact ⟨g, e1, e2, e3.keep hb⟩
                · rename_i h4
                  rw [if_neg h4] at h
                  exact h
              · intro t op ht hop
                rcases (by omega : t = 0 ∨ t = 1 ∨ t = 2 ∨ t = 3 ∨ t = 4) with rfl | rfl | rfl | rfl | rfl
                all_goals simp only [List.getElem?_cons_zero, List.getElem?_cons_succ, Option.some.injEq] at hop
                all_goals subst hop
                all_goals intro a wx hE hag hdep
                · have e := slot_eq (hag 5 rfl)
                  exact rel_pure _ rfl rfl (by simp [go_sem, e])
                · have e := slot_eq (hdep ⟨0, .data⟩ (by simp) rfl)
                  have hq := (z2.keep hE).all.1 4
                  exact rel_pure _ rfl rfl (by simp [go_sem, e, hq])
                · have e := slot_eq (hag 9 rfl)
                  exact rel_pure _ rfl rfl (by simp [go_sem, e])
                · have e := slot_eq (hdep ⟨2, .data⟩ (by simp) rfl)
                  refine rel_call (f := 45) (args := #[.float .f32 (P (j * w + i) c)]) (run_go_call Tryd.func45 (by kernel_rfl) (by kernel_rfl) _ _ _ _ _ _ _ _ _ _ (by simp [Act.eval, e])) rfl ?_
                  refine (ref_Fix _ wx).mono ?_
                  rintro e w' ⟨rfl, rfl⟩
                  exact ⟨_, rfl, rfl, Below.refl _ _⟩
                · have e := slot_eq (hdep ⟨3, .data⟩ (by simp) rfl)
                  refine rel_val (v := .slice (some ⟨wx.heap.size, 0, none⟩) 1 1) (w' := wx.alloc (.cells #[.float .f32 (canon (P (j * w + i) c))] 39)) (by simp [go_sem, e]) ⟨_, rfl, hE.size, Bx.new _ _ _⟩ ((Below.refl _ _).alloc (Nat.le_refl _) _) (fun h => by cases h)
              · intro vs wx hE hvs _
                have k0 := hvs 0 (by omega)
                have k1 := hvs 1 (by omega)
                have k2 := hvs 2 (by omega)
                have k3 := hvs 3 (by omega)
                obtain ⟨g, k4, hg, xg⟩ := hvs 4 (by omega)
                simp only [show ¬ (0 = 4) by omega, show ¬ (1 = 4) by omega, show ¬ (2 = 4) by omega, show ¬ (3 = 4) by omega, if_false] at k0 k1 k2 k3
                simp only [List.drop_succ_cons, List.drop_zero, putAll, dstAt, List.getElem?_toArray, List.getElem?_cons_zero, List.getElem?_cons_succ, Option.bind_some, Act.put, List.setIfInBounds_toArray, List.set_cons_zero, List.set_cons_succ, k0, k1, k2, k3, k4]
                clear hvs k0 k1 k2 k3 k4
                have hownx := own_below hown hE
                have y0 := z0.keep hE
                have y1 := z1.keep hE
                have y2 := z2.keep hE
                have hB := hbl.trans (hE.mono hsz)
                have hbd : (j * w + i) < M := by
                  rw [HM.out, Nat.mul_comm w h]
                  have : j * w + w ≤ h * w := by rw [← Nat.succ_mul]; exact Nat.mul_le_mul_right _ hlt
                  omega
                have hbs := hB.size
                have hgsz := xg.lt
                refine wpList_append_own _ rfl (.tmp 42) (.tmp 45) 24 rfl (W.heap.size + 3) 39 i0 (.float .f32 0) 1 4 Tryd.underlying24 hi hz0 hz1 hz2 rfl (by decide) v _ _ rfl hownx ⟨g, 0, none⟩ 1 1 [.float .f32 (canon (P (j * w + i) c))] rfl rfl ?c1 ?c2 ?c3 ?c4 ?c5 ?_
                case c1 =>
                  intro k u hu
                  match k with
                  | 0 => simp at hu; subst hu; exact xg.all.1 0
                  | k + 1 => simp at hu
                case c2 => intro u hu; simp at hu; subst hu; rfl
                case c3 => unfold maxLen; omega
                case c4 => omega
                case c5 => omega
                · intro v' w5 hown5 hgrow hnil
                  obtain ⟨g5, cap5, rfl, hg5, hl5, _⟩ := own_form hown5 (by omega)
                  have hne0 : v.ownBlock ≠ some W.heap.size := fun e => by have := (hownx.lt _ e).1; omega
                  have hne1 : v.ownBlock ≠ some (W.heap.size + 1) := fun e => by have := (hownx.lt _ e).1; omega
                  have hne2 : v.ownBlock ≠ some (W.heap.size + 1 + 1) := fun e => by have := (hownx.lt _ e).1; omega
                  have u0 := y0.grown hgrow hne0
                  have u1 := y1.grown hgrow hne1
                  have u2 := y2.grown hgrow hne2
                  have B5 : Below W.heap.size W w5 := hB.grown hgrow hbs (fun k hk => by have := (hownx.lt _ hk).1; omega)
                  rw [← List.map_singleton (f := Value.float .f32), ← List.map_append, ← madeL_succ _ _ _ hlt3] at hown5
                  clear hownx y0 y1 y2 hB hgrow hnil hown z0 z1 z2 hE xg hbl hic hne0 hne1 hne2 hbs hgsz
                  obtain ⟨q2, f2, l2⟩ := u2.all
                  go_wp2_with fail
                  go_roundw
                  case rel => exact ⟨c + 1, by omega, by go_num, ⟨_, u0.other _ _ (by dsimp only; omega), u1.other _ _ (by dsimp only; omega), by simpa using u2.set 4 _, own_set hown5 (by omega), bput (by omega) B5⟩⟩
                  case measure => simp [intOf]; omega
            · have hc4 : c = 4 := by omega
              subst hc4
              go_wp2_with fail
              go_roundw
              case rel => exact ⟨i + 1, by omega, by go_num, by rw [show 4 * (j * w + (i + 1)) = 4 * (j * w + i) + 4 by omega]; exact hinv⟩
              case measure => simp [intOf]; omega
        · have hiw : i = w := by omega
          subst hiw
          obtain ⟨q0, f0, l0⟩ := z0.all
          go_wp2_with fail
          go_roundw
          case rel => exact ⟨j + 1, by omega, by go_num, by rw [show 4 * ((j + 1) * i) = 4 * (j * i + i) by rw [Nat.add_mul j 1 i, Nat.one_mul]]; exact ⟨v, z0, z1, z2, hown, hbl⟩⟩
          case measure => simp [intOf]; omega
    · have hjh : j = h := by omega
      subst hjh
      obtain ⟨q0, f0, l0⟩ := z0.all
      obtain ⟨q1, f1, l1⟩ := z1.all
      obtain ⟨q2, f2, l2⟩ := z2.all
      have hml : 4 * (j * w) = 4 * M := by rw [HM.out, Nat.mul_comm w j]
      rw [hml] at hown
      have hM1 : 0 < M := by rw [HM.out]; exact Nat.mul_pos hw1 hh1
      clear hml
      obtain ⟨g, cp, rfl, hg, hgl, hcp⟩ := own_form hown (by omega)
      have how : Ow wr W.heap.size (.slice (some ⟨g, 0, none⟩) (4 * M) cp) (madeL P (4 * M)) := by
        unfold Ow
        rw [madeL_len]
        exact own_mono hown (by omega)
      have hrd := rd_of_ow how (madeL_len _ _)
      clear how hown
      go_wp2_with fail
      refine bodyPost_ret (v := .agg #[.int .i64 x, .int .i64 y, .int .i64 w, .int .i64 j, .slice (some ⟨g, 0, none⟩) (4 * M) cp]) (by simp [results, Tryd.results38, go_sem, q1]) rfl ⟨g, cp, rfl, hcp, by omega, ?_, ?_⟩
      · refine Only.rd (b := W.heap.size + 1) ?_ (by omega) hrd
        exact (((((Only.refl _ _).set _ _).set _ _).set _ _).set _ _).set _ _
      · exact bput (by omega) (bput (by omega) (bput (by omega) (bput (by omega) (bput (by omega) hbl))))
end Go.Proofs.YtckadkobgmnoeaaDoor
