/- dyeref1.values. (printed by gen_exv.py) -/
import Derived.Test.YtlfcedecobebmaaHsC
import Derived.Test.YtlfcedecobebmaaGrd
namespace Go.Proofs.Ytlfcedecobebmaa
open Go.RowKit

theorem ref_usual (W : World) : Calls Try.prog 48 #[] W fun e w' => e = .returned (.agg #[.float .f32 1046066128, .float .f32 1060575065, .float .f32 1033100696]) ∧ Below W.heap.size W w' := by
  go_enter Try.func48, Try.ntmps48
  go_wp2_with fail
  refine bodyPost_ret (v := .agg #[.float .f32 1046066128, .float .f32 1060575065, .float .f32 1033100696]) (by simp [results, Try.results48, go_sem]) rfl ⟨rfl, ?_⟩
  repeat (refine bput (Nat.le_refl _) ?_)
  exact bnew (Below.refl _ W)

theorem Ow.mono {w : World} {B B' : Nat} {v : Value} {xs : List Nat} (h : Ow w B v xs) (hb : B' ≤ B) : Ow w B' v xs := by
  refine ⟨h.1, ?_⟩
  rcases h.2 with h0 | ⟨g, cap, cur, e1, e2, e3⟩
  · exact .inl h0
  · exact .inr ⟨g, cap, cur, e1, by omega, e3⟩
theorem own_keep {w w' : World} {B : Nat} {e : TypeId} {s : Nat} {v : Value} {n : Nat} {xs : List Value} (h : w.ownsRow B e s v n xs) (hb : Below w.heap.size w w') : w'.ownsRow B e s v n xs := by
  refine ⟨h.1, ?_⟩
  rcases h.2 with h0 | ⟨g, cap, cur, e1, e2, e3, e4⟩
  · exact .inl h0
  · exact .inr ⟨g, cap, cur, e1, e2, (hb.block g (Array.getElem?_eq_some_iff.1 e3).1).trans e3, e4⟩
/-- Four cells that stand. -/
def Pix4 (w : World) (b o v0 v1 v2 v3 : Nat) : Prop := w.cell? ⟨b, o, none⟩ = some (.float .f32 v0) ∧ w.cell? ⟨b, o + 1, none⟩ = some (.float .f32 v1) ∧ w.cell? ⟨b, o + 2, none⟩ = some (.float .f32 v2) ∧ w.cell? ⟨b, o + 3, none⟩ = some (.float .f32 v3)
theorem Pix4.below {w w' : World} {b o v0 v1 v2 v3 B : Nat} (h : Pix4 w b o v0 v1 v2 v3) (hb : Below B w w') (hl : b < B) : Pix4 w' b o v0 v1 v2 v3 :=
  ⟨by rw [hb.cell (p := ⟨b, o, none⟩) hl]; exact h.1, by rw [hb.cell (p := ⟨b, o + 1, none⟩) hl]; exact h.2.1, by rw [hb.cell (p := ⟨b, o + 2, none⟩) hl]; exact h.2.2.1, by rw [hb.cell (p := ⟨b, o + 3, none⟩) hl]; exact h.2.2.2⟩

set_option maxRecDepth 100000 in
set_option maxHeartbeats 4000000 in
theorem ref_values_pl (x y w h : Int) (b o n c M ch : Nat) (xs : List Nat) (W : World) (hM2 : M ≤ 65536) (hn : n = 4 * M) (hch : ch < 4) (hxs : xs.length = n) (hrd : Rd W b o xs) :
    Calls Try.prog 31 #[.agg #[.int .i64 x, .int .i64 y, .int .i64 w, .int .i64 h, .slice (some ⟨b, o, none⟩) n c], .int .i64 (ch : Int)] W fun e w' =>
      ∃ v, e = .returned v ∧ Ow w' W.heap.size v (valsL xs ch M) ∧ Below W.heap.size W w' := by
  have h4 : ((ch : Nat) : Int) < 4 := by omega
  subst hn
  have hsz : W.heap.size ≤ (W.alloc (.cells #[.int .i64 x, .int .i64 y, .int .i64 w, .int .i64 h, .slice (some ⟨b, o, none⟩) (4 * M) c] 26)).heap.size := by simp
  have hrd1 := hrd.alloc (.cells #[.int .i64 x, .int .i64 y, .int .i64 w, .int .i64 h, .slice (some ⟨b, o, none⟩) (4 * M) c] 26)
  clear hrd
  go_enter Try.func31, Try.ntmps31
  go_wp2_with fail
  refine (ref_Plane x y w h b o (4 * M) c M ch xs _ hM2 rfl hch hxs hrd1).mono ?_
  rintro e w1 ⟨v, rfl, how, hb1⟩
  have B1 := bcall (bnew (Below.refl _ W)) hb1
  go_wp2_with fail
  go_ret
  refine ⟨v, rfl, ?_, B1⟩
  rw [valsL_pl _ _ _ hch]
  exact how.mono hsz

set_option maxRecDepth 100000 in
set_option maxHeartbeats 8000000 in
theorem ref_values_lu (x y w h : Int) (b o n c M : Nat) (xs : List Nat) (W : World) (hM2 : M ≤ 65536) (hn : n = 4 * M) (hxs : xs.length = n) (hrd : Rd W b o xs) (hnc : n ≤ c) :
    Calls Try.prog 31 #[.agg #[.int .i64 x, .int .i64 y, .int .i64 w, .int .i64 h, .slice (some ⟨b, o, none⟩) n c], .int .i64 4] W fun e w' =>
      ∃ v, e = .returned v ∧ Ow w' W.heap.size v (valsL xs 4 M) ∧ Below W.heap.size W w' := by
  obtain ⟨i0, hi, hz0, hz1, hz2⟩ := info_parts infoF
  have Hxs := Lib.hid hxs
  have hbb := hrd.lt
  subst hn
  clear hxs
  go_enter Try.func31, Try.ntmps31
  go_wp2_with fail
  have x0 := Bx.new W 26 #[.int .i64 x, .int .i64 y, .int .i64 w, .int .i64 h, .slice (some ⟨b, o, none⟩) (4 * M) c]
  have B1 := bnew (ob := .cells #[.int .i64 x, .int .i64 y, .int .i64 w, .int .i64 h, .slice (some ⟨b, o, none⟩) (4 * M) c] 26) (Below.refl _ W)
  have hrd1 := hrd.alloc (.cells #[.int .i64 x, .int .i64 y, .int .i64 w, .int .i64 h, .slice (some ⟨b, o, none⟩) (4 * M) c] 26)
  have hs1 : (W.alloc (.cells #[.int .i64 x, .int .i64 y, .int .i64 w, .int .i64 h, .slice (some ⟨b, o, none⟩) (4 * M) c] 26)).heap.size = W.heap.size + 1 := by simp
  refine name_world ?_
  intro wb hwb
  rw [← hwb] at x0 B1 hrd1 hs1
  clear hwb hrd
  have l0 : W.heap.size < W.heap.size + 1 := by omega
  have hb1 : b < W.heap.size + 1 := by omega
  go_loopw [5, 6] (fun v i wr => ∃ k : Nat, k ≤ M ∧ i = .int .i64 (4 * (k : Int)) ∧ wr.ownsRow (W.heap.size + 1) 29 1 v k (((List.range k).map fun i => lumM xs i).map (Value.float .f32)) ∧ Below (W.heap.size + 1) wb wr) (fun _ i _ => 4 * M + 4 - (intOf i).toNat)
  case atStart => exact ⟨0, by omega, by simp, World.ownsRow_nil _ _ _ _, Below.refl _ _⟩
  case round =>
    obtain ⟨k, hk, rfl, hown, hbl⟩ := hrel
    have x2 := x0.below hbl l0
    obtain ⟨q0, f0, m0⟩ := x2.all
    by_cases hlt : k < M
    · have hki : 4 * (k : Int) < 4 * (M : Int) := by omega
      have hrd2 := hrd1.below hbl hb1
      have e3 := Hxs.out
      have hcells : Pix4 wr b (o + 4 * k) (xs.getD (4 * k) 0) (xs.getD (4 * k + 1) 0) (xs.getD (4 * k + 2) 0) (xs.getD (4 * k + 3) 0) :=
        ⟨hrd2.cell (4 * k) (by rw [e3]; omega), by rw [Nat.add_assoc]; exact hrd2.cell (4 * k + 1) (by rw [e3]; omega), by rw [Nat.add_assoc]; exact hrd2.cell (4 * k + 2) (by rw [e3]; omega), by rw [Nat.add_assoc]; exact hrd2.cell (4 * k + 3) (by rw [e3]; omega)⟩
      have hlm : ∀ u : World, Calls Try.prog 47 #[.agg #[.float .f32 1046066128, .float .f32 1060575065, .float .f32 1033100696], .agg #[.float .f32 (xs.getD (4 * k) 0), .float .f32 (xs.getD (4 * k + 1) 0), .float .f32 (xs.getD (4 * k + 2) 0), .float .f32 (xs.getD (4 * k + 3) 0)]] u fun e w' => e = .returned (.float .f32 (lumM xs k)) ∧ Below u.heap.size u w' :=
        fun u => ref_LumaOf _ _ _ (fun j => xs.getD (4 * k + j) 0) u
      have hcl : canon (lumM xs k) = lumM xs k := by unfold lumM lumaV; exact canon_fop _ _ _
      have he : ((List.range (k + 1)).map fun i => lumM xs i).map (Value.float .f32) = ((List.range k).map fun i => lumM xs i).map (Value.float .f32) ++ [.float .f32 (lumM xs k)] := by
        rw [List.range_succ, List.map_append, List.map_append]; simp
      generalize lumM xs k = lu at hlm hcl he
      generalize xs.getD (4 * k) 0 = v0 at hlm hcells
      generalize xs.getD (4 * k + 1) 0 = v1 at hlm hcells
      generalize xs.getD (4 * k + 2) 0 = v2 at hlm hcells
      generalize xs.getD (4 * k + 3) 0 = v3 at hlm hcells
      have hbw : b < wr.heap.size := hrd2.lt
      have Hlm := Lib.hid hlm
      have Hcl := Lib.hid hcl
      have He := Lib.hid he
      have hw0 := hbl.size
      rw [hs1] at hw0
      clear hlm hcl he e3 hrd2
      have hcells2 : ∀ w', Below wr.heap.size wr w' → Pix4 w' b (o + 4 * k) v0 v1 v2 v3 := fun w' hb => hcells.below hb hbw
      have h4w : IntKind.i64.wrap (4 * (k : Int) + 4) = 4 * (k : Int) + 4 := by rw [IntKind.wrap_i64]; omega
      have s1 : (0 : Int) ≤ 4 * (k : Int) + 4 := by omega
      have s2 : 4 * (k : Int) + 4 ≤ (c : Int) := by omega
      have s3 : (0 : Int) ≤ 4 * (k : Int) := by omega
      have s4 : 4 * (k : Int) ≤ 4 * (k : Int) + 4 := by omega
      have s5 : (4 * (k : Int)).toNat = 4 * k := by omega
      have s6 : (4 * (k : Int) + 4).toNat = 4 * k + 4 := by omega
      have s7 : ¬ c = 4 * k := by omega
      go_upto_region 7 with fail
      refine wp_region_grd 13 (fun _ => false) (fun q u w' => if q = 12 then ∃ gn, u = .slice (some ⟨gn, 0, none⟩) 1 1 ∧ wr.heap.size ≤ gn ∧ Bx w' gn 29 #[.float .f32 lu] else u = [u5, .agg #[.float .f32 1046066128, .float .f32 1060575065, .float .f32 1033100696], .pointer (some ⟨W.heap.size, 4, none⟩), .slice (some ⟨b, o, none⟩) (4 * M) c, .int .i64 (4 * (k : Int)), .int .i64 (4 * (k : Int)), .int .i64 (4 * (k : Int) + 4), .slice (some ⟨b, o + 4 * k, none⟩) 4 (c - 4 * k), .pointer (some ⟨b, o + 4 * k, none⟩), .agg #[.float .f32 v0, .float .f32 v1, .float .f32 v2, .float .f32 v3], .float .f32 lu, .float .f32 lu].getD q undef) (fun _ => false) (fun w' => Below wr.heap.size wr w') (by kernel_rfl) (by kernel_rfl) (fun _ _ _ _ _ h => h)
        (fun _ _ h e => e.trans (h.mono e.size)) (fun t u a' b' hb h => ?_) (Below.refl _ _).drew ?_ ?_ ?_
      · split
        · rename_i h4
          rw [if_pos h4] at h
          obtain ⟨gn, e1, e2, e3⟩ := h
          exact ⟨gn, e1, e2, e3.keep hb⟩
        · rename_i h4
          rw [if_neg h4] at h
          exact h
      · intro t op ht hlt hop
        clear hlt
        rcases (by omega : t = 0 ∨ t = 1 ∨ t = 2 ∨ t = 3 ∨ t = 4 ∨ t = 5 ∨ t = 6 ∨ t = 7 ∨ t = 8 ∨ t = 9 ∨ t = 10 ∨ t = 11 ∨ t = 12) with rfl | rfl | rfl | rfl | rfl | rfl | rfl | rfl | rfl | rfl | rfl | rfl | rfl
        all_goals simp only [List.getElem?_cons_zero, List.getElem?_cons_succ, Option.some.injEq] at hop
        all_goals subst hop
        all_goals intro a wx hE hag hdep
        · refine grd_none rfl ?_
          have e0 := slot_eq (hag 5 rfl)
          exact rel_pure _ rfl rfl (by simp [go_sem, e0])
        · refine grd_none rfl ?_
          have hc := fun u => ref_usual u
          refine rel_call (f := 48) (args := #[]) (run_go_call Try.func48 (by kernel_rfl) (by kernel_rfl) _ _ _ _ _ _ _ _ _ _ (by simp [Act.eval])) rfl ?_
          refine (hc wx).mono ?_
          rintro e w' ⟨rfl, hbx⟩
          exact ⟨_, rfl, rfl, hbx⟩
        · refine grd_none rfl ?_
          have e0 := slot_eq (hag 2 rfl)
          exact rel_pure _ rfl rfl (by simp [go_sem, e0])
        · refine grd_none rfl ?_
          have e0 := slot_eq (hdep ⟨2, .data⟩ (by simp) rfl)
          have hq := (x2.keep hE).all.1
          exact rel_pure _ rfl rfl (by simp [go_sem, e0, hq])
        · refine grd_none rfl ?_
          have e0 := slot_eq (hag 6 rfl)
          exact rel_pure _ rfl rfl (by simp [go_sem, e0])
        · refine grd_none rfl ?_
          have e0 := slot_eq (hag 6 rfl)
          exact rel_pure _ rfl rfl (by simp [go_sem, e0])
        · refine grd_none rfl ?_
          have e0 := slot_eq (hdep ⟨5, .data⟩ (by simp) rfl)
          exact rel_pure _ rfl rfl (by simp [go_sem, e0, h4w])
        · refine grd_none rfl ?_
          have e0 := slot_eq (hdep ⟨3, .data⟩ (by simp) rfl)
          have e1 := slot_eq (hdep ⟨4, .data⟩ (by simp) rfl)
          have e2 := slot_eq (hdep ⟨6, .data⟩ (by simp) rfl)
          exact rel_pure _ rfl rfl (by simp [go_sem, e0, e1, e2, s1, s2, s3, s4, s5, s6, s7, Nat.add_sub_cancel_left])
        · refine grd_none rfl ?_
          have e0 := slot_eq (hdep ⟨7, .data⟩ (by simp) rfl)
          exact rel_pure _ rfl rfl (by simp [go_sem, e0])
        · refine grd_none rfl ?_
          have e0 := slot_eq (hdep ⟨8, .data⟩ (by simp) rfl)
          have hp := hcells2 wx hE
          have p0 := hp.1
          have p1 := hp.2.1
          have p2 := hp.2.2.1
          have p3 := hp.2.2.2
          exact rel_pure _ rfl rfl (by simp [go_sem, e0, p0, p1, p2, p3])
        · refine grd_none rfl ?_
          have e0 := slot_eq (hdep ⟨1, .data⟩ (by simp) rfl)
          have e1 := slot_eq (hdep ⟨9, .data⟩ (by simp) rfl)
          refine rel_call (f := 47) (args := #[.agg #[.float .f32 1046066128, .float .f32 1060575065, .float .f32 1033100696], .agg #[.float .f32 v0, .float .f32 v1, .float .f32 v2, .float .f32 v3]]) (run_go_call Try.func47 (by kernel_rfl) (by kernel_rfl) _ _ _ _ _ _ _ _ _ _ (by simp [Act.eval, e0, e1])) rfl ?_
          refine (Hlm.out wx).mono ?_
          rintro e w' ⟨rfl, hbx⟩
          exact ⟨_, rfl, rfl, hbx⟩
        · refine grd_none rfl ?_
          have e0 := slot_eq (hdep ⟨10, .data⟩ (by simp) rfl)
          refine rel_call (f := 46) (args := #[.float .f32 lu]) (run_go_call Try.func46 (by kernel_rfl) (by kernel_rfl) _ _ _ _ _ _ _ _ _ _ (by simp [Act.eval, e0])) rfl ?_
          refine (ref_Fix lu wx).mono ?_
          rintro e w' ⟨rfl, hbx⟩
          exact ⟨_, rfl, by rw [Hcl.out]; rfl, by rw [hbx]; exact Below.refl _ _⟩
        · refine grd_none rfl ?_
          have e0 := slot_eq (hdep ⟨11, .data⟩ (by simp) rfl)
          exact rel_val (v := .slice (some ⟨wx.heap.size, 0, none⟩) 1 1) (w' := wx.alloc (.cells #[.float .f32 lu] 29)) (by simp [go_sem, e0]) ⟨wx.heap.size, rfl, hE.size, Bx.new _ _ _⟩ ((Below.refl _ _).alloc (Nat.le_refl _) _) (fun h => by cases h)
      · intro t op ht hlt; cases hlt
      intro vs wy hE hvs _
      have k0 : vs 0 = u5 := hvs 0 (by omega)
      obtain ⟨gn, k12, hgn, xn⟩ := hvs 12 (by omega)
      simp only [List.drop_succ_cons, List.drop_zero, putAll, dstAt, List.getElem?_toArray, List.getElem?_cons_zero, List.getElem?_cons_succ, Option.bind_some, Act.put, List.setIfInBounds_toArray, List.set_cons_zero, List.set_cons_succ, k0, k12]
      clear hvs k0 k12
      have own2 := own_keep hown hE
      have hbl2 : Below (W.heap.size + 1) wb wy := hbl.trans (hE.mono (by omega))
      have hy := hE.size
      have xb := xn.all
      clear hown hE x2 q0 f0 m0 hcells hcells2
      refine wpList_append_own _ rfl (.tmp 19) (.tmp 31) 24 rfl (W.heap.size + 1) 29 i0 (.float .f32 0) 1 4 Try.underlying24 hi hz0 hz1 hz2 rfl (by decide) u5 k _ rfl own2 ⟨gn, 0, none⟩ 1 1 [.float .f32 lu] rfl rfl ?c1 ?c2 ?c3 ?c4 ?c5 ?_
      case c1 => intro j u hj; match j, hj with | 0, hj => cases hj; exact xb.1 0
      case c2 => intro u hu; simp at hu; subst hu; rfl
      case c3 => unfold maxLen; omega
      case c4 => omega
      case c5 => omega
      intro v' w1 hown' hgrow hnil
      have hbl3 : Below (W.heap.size + 1) wb w1 := hbl2.grown hgrow (by omega) (fun j hj => by
        rcases own2.2 with ⟨h0, _⟩ | ⟨g, cap, cur, h0, hb, _⟩
        · rw [h0] at hj; simp [Value.ownBlock] at hj
        · rw [h0] at hj; simp [Value.ownBlock] at hj; omega)
      rw [← He.out] at hown'
      clear own2 hgrow hnil xb xn hbl2
      have H2 := Lib.hid (And.intro hown' hbl3)
      clear hown' hbl3
      go_wp2_with fail
      go_roundw
      case rel => exact ⟨k + 1, by omega, by go_num, H2.out.1, H2.out.2⟩
      case measure => simp [intOf]; omega
    · have hkM : k = M := by omega
      subst hkM
      have hki : ¬ 4 * (k : Int) < 4 * (k : Int) := by omega
      go_wp2_with fail
      go_ret
      refine ⟨_, rfl, ?_, B1.trans (hbl.mono (by omega))⟩
      unfold Ow
      rw [valsL_len]
      have hv : valsL xs 4 k = (List.range k).map fun i => lumM xs i := rfl
      rw [hv]
      rcases hown with ⟨ha, hb⟩
      refine ⟨ha, ?_⟩
      rcases hb with h | ⟨g, cap, cur, h1, h2, h3⟩
      · exact .inl h
      · exact .inr ⟨g, cap, cur, h1, by omega, h3⟩
end Go.Proofs.Ytlfcedecobebmaa
