/- Neutral grades: grade.Neutral and dyeref1.Neutral of a right grade. (printed by gen_nub.py) -/
import Derived.Test.YticekgnmiaidjaaGreatDoorNuE
import Derived.Test.YticekgnmiaidjaaGreatDoorNuA
import Derived.Test.YticekgnmiaidjaaGreatDoorGnF
namespace Go.Proofs.YticekgnmiaidjaaGreatDoor
open Go.RowKit Go.Lib

/-- Four curves behind each other, from the cell o of the block b on. -/
def Cv4 (w : World) (b o : Nat) (l : List Cv) : Prop := l.length = 4 ∧ ∀ (i : Nat) (c : Cv), l[i]? = some c → ∃ a1 c1 a2 c2, w.cell? ⟨b, o + i * 3, none⟩ = some (.int .i64 c.kind) ∧ w.cell? ⟨b, o + i * 3 + 1, none⟩ = some (.slice a1 c.xs.length c1) ∧ w.cell? ⟨b, o + i * 3 + 2, none⟩ = some (.slice a2 c.ys.length c2)
theorem GdAt.cv4 {w : World} {C : Array Value} {g : Gd} (h : GdAt w C g) {u : World} {b : Nat} (hx : Bx u b 46 C) : Cv4 u b 20 g.cvs := by
  refine ⟨h.cvs.1, fun i c hc => ?_⟩
  obtain ⟨h0, ⟨vx, e1, s1⟩, vy, e2, s2⟩ := h.cvs.2 i c hc
  obtain ⟨a1, c1, rfl⟩ := s1.sl
  obtain ⟨a2, c2, rfl⟩ := s2.sl
  refine ⟨a1, c1, a2, c2, ?_, ?_, ?_⟩
  · rw [hx.all.1, ← h0]; congr 1; omega
  · rw [hx.all.1, ← e1]; congr 1; omega
  · rw [hx.all.1, ← e2]; congr 1; omega
theorem Cv4.keep {w w' : World} {b o : Nat} {l : List Cv} (h : Cv4 w b o l) (hb : Below w.heap.size w w') : Cv4 w' b o l := by
  refine ⟨h.1, fun i c hc => ?_⟩
  obtain ⟨a1, c1, a2, c2, h0, h1, h2⟩ := h.2 i c hc
  exact ⟨a1, c1, a2, c2, (hb.cell (World.block_lt_of_cell? _ _ h0)).trans h0, (hb.cell (World.block_lt_of_cell? _ _ h1)).trans h1, (hb.cell (World.block_lt_of_cell? _ _ h2)).trans h2⟩
set_option maxRecDepth 100000 in
set_option maxHeartbeats 4000000 in
theorem index_hasP (b o c : Nat) (l : List Cv) (W : World) (h : Cv4 W b o l) : Calls Tryz.prog 113 #[.slice (some ⟨b, o, none⟩) 4 c, .func (.func 67) #[] #[]] W fun e w' => (∃ k : Nat, e = .returned (.int .i64 (k : Int)) ∧ l.any hasP = true ∨ e = .returned (.int .i64 (-1)) ∧ l.any hasP = false) ∧ Below W.heap.size W w' := by
  have HH := Lib.hid h
  clear h
  have hcf : ∀ (args : Array Value) (u : World), (callFunc 67 args).run Tryz.prog u = .ok (.enter 67 args) u := fun args u => enters Tryz.func67 (by kernel_rfl) (by kernel_rfl) _ _
  go_enter Tryz.func113, Tryz.ntmps113
  go_wp2_with fail
  go_loopw [8] (fun i wr => ∃ k : Nat, k ≤ 4 ∧ i = .int .i64 k ∧ Hid ((l.take k).any hasP = false) ∧ Hid (Below W.heap.size W wr)) (fun i _ => 4 - (RowKit.intOf i).toNat)
  case atStart => exact ⟨0, by omega, rfl, Lib.hid rfl, Lib.hid (Below.refl _ _)⟩
  case round =>
    obtain ⟨k, hk, rfl, HA, HB⟩ := hrel
    by_cases hlt : k < 4
    · obtain ⟨cv, hcv⟩ : ∃ cv, l[k]? = some cv := ⟨_, List.getElem?_eq_getElem (by have := HH.out.1; omega)⟩
      obtain ⟨a1, c1, a2, c2, q0, q1, q2⟩ := (HH.out.keep HB.out).2 k cv hcv
      have hgd : l.getD k ⟨0, [], []⟩ = cv := by rw [List.getD_eq_getElem?_getD, hcv]; rfl
      have hkl : k < l.length := by have := HH.out.1; omega
      have h1 := any_takeG hasP l ⟨0, [], []⟩ k hkl
      rw [HA.out, Bool.false_or, hgd] at h1
      have h2 := any_has hasP l ⟨0, [], []⟩ k hkl
      rw [hgd] at h2
      have hhp : hasP cv = (decide (0 < cv.xs.length) || decide (0 < cv.ys.length)) := rfl
      have HC := Lib.hid (And.intro h1 (And.intro h2 hhp))
      have hd1 : decide ((k : Int) < 4) = true := decide_eq_true (by omega)
      generalize cv.xs.length = nx at q1 HC hhp
      generalize cv.ys.length = ny at q2 HC hhp
      clear hcv hgd hkl h1 h2 hhp
      go_wp2_with fail
      refine (grade_hasPoints _ _ _ _ _ _ _ _).mono ?_
      rintro e w2 ⟨rfl, hb2⟩
      have B2 := Lib.hid (bcall HB.out hb2)
      obtain ⟨hv, hhv⟩ : ∃ hv, (decide (0 < nx) || decide (0 < ny)) = hv := ⟨_, rfl⟩
      have HV := Lib.hid hhv
      rw [hhv]
      clear hhv hb2 q0 q1 q2
      cases hv
      · go_wp2_with fail
        go_roundw
        case rel => exact ⟨k + 1, by omega, by go_num, Lib.hid (by rw [HC.out.1, HC.out.2.2, HV.out]), B2⟩
        case measure => simp [RowKit.intOf]; omega
      · go_wp2_with fail
        go_ret
        exact ⟨⟨k, .inl ⟨rfl, HC.out.2.1 (by rw [HC.out.2.2, HV.out])⟩⟩, B2.out⟩
    · obtain rfl : k = 4 := by omega
      go_wp2_with fail
      go_ret
      exact ⟨⟨0, .inr ⟨rfl, by have := HA.out; rw [← HH.out.1, List.take_length] at this; exact this⟩⟩, HB.out⟩
set_option maxRecDepth 100000 in
theorem contains_hasP (b o c : Nat) (l : List Cv) (W : World) (h : Cv4 W b o l) : Calls Tryz.prog 66 #[.slice (some ⟨b, o, none⟩) 4 c, .func (.func 67) #[] #[]] W fun e w' => e = .returned (.bool (l.any hasP)) ∧ Below W.heap.size W w' := by
  go_enter Tryz.func66, Tryz.ntmps66
  go_wp2_with fail
  refine (index_hasP b o c l W h).mono ?_
  rintro e w2 ⟨⟨k, ⟨rfl, ha⟩ | ⟨rfl, ha⟩⟩, hb⟩
  · have HA := Lib.hid ha
    have hk : decide ((k : Int) ≥ 0) = true := decide_eq_true (by omega)
    clear ha
    go_wp2_with fail
    go_ret
    rw [HA.out]
    exact ⟨rfl, hb⟩
  · have HA := Lib.hid ha
    clear ha
    go_wp2_with fail
    go_ret
    rw [HA.out]
    exact ⟨rfl, hb⟩
def cvX (c : Cv) : Bool := decide (0 < c.xs.length)
theorem all_cvX (l : List Cv) : l.all (fun c => decide (c.xs.length = 0)) = !l.any cvX := by
  rw [Bool.eq_iff_iff, Bool.not_eq_true', List.any_eq_false, List.all_eq_true]
  constructor
  · intro h c hc
    have := of_decide_eq_true (h c hc)
    unfold cvX
    simp [this]
  · intro h c hc
    have := h c hc
    unfold cvX at this
    simp only [decide_eq_true_eq] at this
    exact decide_eq_true (by omega)

set_option maxRecDepth 100000 in
set_option maxHeartbeats 16000000 in
theorem grade_Neutral (C : Array Value) (g : Gd) (W : World) (hG : GdAt W C g) (he : gradeErr g = 0) : Calls Tryz.prog 32 #[.agg C] W fun e w' => e = .returned (.tuple #[.bool (neutB g), .int .i64 0]) ∧ Below W.heap.size W w' := by
  obtain ⟨R, hR⟩ : ∃ R, neutB g = R := ⟨_, rfl⟩
  rw [hR]
  have HR := Lib.hid hR
  have HG := Lib.hid hG
  have HE := Lib.hid he
  obtain ⟨v0, v1, v2, v3, v4, v5, v6, v7, v8, l0, l1, l2, l3, l4, l5, l6, l7, l8, l9, m0, m1, m2, m3, m4, m5, m6, m7, m8, m9, m10, m11, n0, n1, n2, hfl⟩ := hG.flat
  have HFl := Lib.hid hfl
  obtain ⟨kk, hkk⟩ : ∃ kk, g.kind = kk := ⟨_, rfl⟩
  have HKK := Lib.hid hkk
  have hk1 := (right_of he).k1
  have hk6 := (right_of he).k6
  rw [hkk] at hk1 hk6
  obtain ⟨pv, hpv⟩ : ∃ x, g.piv = x := ⟨_, rfl⟩
  obtain ⟨am, ham⟩ : ∃ x, g.amt = x := ⟨_, rfl⟩
  have HPA := Lib.hid (And.intro hpv ham)
  clear hfl hkk hpv ham hG hR he
  go_enter Tryz.func32, Tryz.ntmps32
  go_upto_region 1 with fail
  refine name_world ?_
  intro W1 hW1
  have X1 : Hid (Bx W1 W.heap.size 46 C) := Lib.hid (by rw [hW1]; exact Bx.new W _ C)
  have HW : Hid (Below W.heap.size W W1) := Lib.hid (by rw [hW1]; exact bnew (ob := .cells C 46) (Below.refl _ _))
  obtain ⟨p1, hp1⟩ : ∃ p, W.heap.size = p := ⟨_, rfl⟩
  rw [hp1] at X1 ⊢
  have HP1 := Lib.hid hp1
  clear hW1 hp1
  have hsz : (Tryz.prog.info? 46).map (·.size) = some C.size := by rw [HG.out.size]; exact grade_size
  go_wp2_with (refine wpList_load_cells rfl 46 (.tmp 1) rfl p1 0 rfl C (fun j v hj => by rw [X1.out.all.1, Nat.zero_add]; exact hj) _ Tryz.underlying46 rfl hsz ?_)
  refine (grade_CheckGrade C g _ (HG.out.keep HW.out)).mono ?_
  rintro e w2 ⟨rfl, hb2⟩
  rw [HE.out]
  have X2 := Lib.hid (X1.out.keep hb2)
  have HB : Hid (Below W.heap.size W w2) := Lib.hid (bcall HW.out hb2)
  clear hb2 hsz
  have q0 : w2.cell? ⟨p1, 0, none⟩ = some (.int .i64 kk) := by rw [X2.out.all.1, HG.out.kind, HKK.out]
  rcases (by omega : kk = 1 ∨ kk = 2 ∨ kk = 3 ∨ kk = 4 ∨ kk = 5 ∨ kk = 6) with rfl | rfl | rfl | rfl | rfl | rfl
  · obtain ⟨z, hz⟩ : ∃ z, eqL [v0, v1, v2, v3, v4, v5, v6, v7, v8] neutW = z := ⟨_, rfl⟩
    obtain rfl : R = z := by rw [← HR.out, ← hz]; unfold neutB; rw [HKK.out]; rw [if_pos rfl]; rw [HFl.out.whe]
    have ewh := fun w => eq_whN v0 v1 v2 v3 v4 v5 v6 v7 v8 w
    simp only [hz] at ewh
    clear hz hk1 hk6
    go_upto_region 7 with fail
    refine name_world ?_
    intro W3 hW3
    have B3 : Hid (Below w2.heap.size w2 W3) := Lib.hid (by rw [hW3]; exact bnew (Below.refl _ _))
    have y0 : ∀ j, W3.cell? ⟨w2.heap.size, j, none⟩ = (#[Value.float .f32 1065353216, .float .f32 1065353216, .float .f32 1065353216] : Array Value)[j]? := fun j => by rw [hW3]; exact (Bx.new w2 32 #[Value.float .f32 1065353216, .float .f32 1065353216, .float .f32 1065353216]).all.1 j
    have X3 := Lib.hid (X2.out.keep B3.out)
    obtain ⟨p5, hp5⟩ : ∃ p, w2.heap.size = p := ⟨_, rfl⟩
    have HP5 := Lib.hid hp5
    rw [hp5] at y0 ⊢
    have z0 := y0 0
    have z1 := y0 1
    have z2 := y0 2
    simp only [List.getElem?_toArray, List.getElem?_cons_zero, List.getElem?_cons_succ] at z0 z1 z2
    have q1 : W3.cell? ⟨p1, 1, none⟩ = some (.float .f32 v0) := by rw [X3.out.all.1, HG.out.whe.2 0 (by omega), HFl.out.whe]; rfl
    have q2 : W3.cell? ⟨p1, 2, none⟩ = some (.float .f32 v1) := by rw [X3.out.all.1, HG.out.whe.2 1 (by omega), HFl.out.whe]; rfl
    have q3 : W3.cell? ⟨p1, 3, none⟩ = some (.float .f32 v2) := by rw [X3.out.all.1, HG.out.whe.2 2 (by omega), HFl.out.whe]; rfl
    have q4 : W3.cell? ⟨p1, 4, none⟩ = some (.float .f32 v3) := by rw [X3.out.all.1, HG.out.whe.2 3 (by omega), HFl.out.whe]; rfl
    have q5 : W3.cell? ⟨p1, 5, none⟩ = some (.float .f32 v4) := by rw [X3.out.all.1, HG.out.whe.2 4 (by omega), HFl.out.whe]; rfl
    have q6 : W3.cell? ⟨p1, 6, none⟩ = some (.float .f32 v5) := by rw [X3.out.all.1, HG.out.whe.2 5 (by omega), HFl.out.whe]; rfl
    have q7 : W3.cell? ⟨p1, 7, none⟩ = some (.float .f32 v6) := by rw [X3.out.all.1, HG.out.whe.2 6 (by omega), HFl.out.whe]; rfl
    have q8 : W3.cell? ⟨p1, 8, none⟩ = some (.float .f32 v7) := by rw [X3.out.all.1, HG.out.whe.2 7 (by omega), HFl.out.whe]; rfl
    have q9 : W3.cell? ⟨p1, 9, none⟩ = some (.float .f32 v8) := by rw [X3.out.all.1, HG.out.whe.2 8 (by omega), HFl.out.whe]; rfl
    clear hW3 hp5 q0 y0
    go_wp2_with fail
    go_ret2
    exact ⟨rfl, HB.out.trans (B3.out.mono HB.out.size)⟩
  · obtain rfl : R = false := by rw [← HR.out]; unfold neutB; rw [HKK.out]; rfl
    go_wp2_with fail
    go_ret2
    exact ⟨rfl, HB.out⟩
  · obtain rfl : R = !g.cvs.any hasP := by rw [← HR.out, any_hasP HE.out]; unfold neutB; rw [HKK.out]; rw [if_neg (by decide)]; rw [if_pos rfl]
    go_wp2_with fail
    refine (contains_hasP p1 20 _ g.cvs _ (HG.out.cv4 X2.out)).mono ?_
    rintro e w5 ⟨rfl, hb5⟩
    obtain ⟨z, hz⟩ : ∃ z, g.cvs.any hasP = z := ⟨_, rfl⟩
    have HZ := Lib.hid hz
    rw [hz]
    have HB5 := Lib.hid (bcall HB.out hb5)
    clear hb5 q0 hz
    go_wp2_with fail
    go_ret2
    rw [HZ.out]
    exact ⟨rfl, HB5.out⟩
  · obtain ⟨z, hz⟩ : ∃ z, eqL [m0, m1, m2, m3, m4, m5, m6, m7, m8, m9, m10, m11] neutM = z := ⟨_, rfl⟩
    obtain rfl : R = z := by rw [← HR.out, ← hz]; unfold neutB; rw [HKK.out]; rw [if_neg (by decide)]; rw [if_neg (by decide)]; rw [if_pos rfl]; rw [HFl.out.mix]
    have emx := fun w => eq_mxN m0 m1 m2 m3 m4 m5 m6 m7 m8 m9 m10 m11 w
    simp only [hz] at emx
    clear hz hk1 hk6
    have q32 : w2.cell? ⟨p1, 32, none⟩ = some (.float .f32 m0) := by rw [X2.out.all.1, HG.out.mix.2 0 (by omega), HFl.out.mix]; rfl
    have q33 : w2.cell? ⟨p1, 33, none⟩ = some (.float .f32 m1) := by rw [X2.out.all.1, HG.out.mix.2 1 (by omega), HFl.out.mix]; rfl
    have q34 : w2.cell? ⟨p1, 34, none⟩ = some (.float .f32 m2) := by rw [X2.out.all.1, HG.out.mix.2 2 (by omega), HFl.out.mix]; rfl
    have q35 : w2.cell? ⟨p1, 35, none⟩ = some (.float .f32 m3) := by rw [X2.out.all.1, HG.out.mix.2 3 (by omega), HFl.out.mix]; rfl
    have q36 : w2.cell? ⟨p1, 36, none⟩ = some (.float .f32 m4) := by rw [X2.out.all.1, HG.out.mix.2 4 (by omega), HFl.out.mix]; rfl
    have q37 : w2.cell? ⟨p1, 37, none⟩ = some (.float .f32 m5) := by rw [X2.out.all.1, HG.out.mix.2 5 (by omega), HFl.out.mix]; rfl
    have q38 : w2.cell? ⟨p1, 38, none⟩ = some (.float .f32 m6) := by rw [X2.out.all.1, HG.out.mix.2 6 (by omega), HFl.out.mix]; rfl
    have q39 : w2.cell? ⟨p1, 39, none⟩ = some (.float .f32 m7) := by rw [X2.out.all.1, HG.out.mix.2 7 (by omega), HFl.out.mix]; rfl
    have q40 : w2.cell? ⟨p1, 40, none⟩ = some (.float .f32 m8) := by rw [X2.out.all.1, HG.out.mix.2 8 (by omega), HFl.out.mix]; rfl
    have q41 : w2.cell? ⟨p1, 41, none⟩ = some (.float .f32 m9) := by rw [X2.out.all.1, HG.out.mix.2 9 (by omega), HFl.out.mix]; rfl
    have q42 : w2.cell? ⟨p1, 42, none⟩ = some (.float .f32 m10) := by rw [X2.out.all.1, HG.out.mix.2 10 (by omega), HFl.out.mix]; rfl
    have q43 : w2.cell? ⟨p1, 43, none⟩ = some (.float .f32 m11) := by rw [X2.out.all.1, HG.out.mix.2 11 (by omega), HFl.out.mix]; rfl
    go_wp2_with fail
    go_ret2
    exact ⟨rfl, HB.out⟩
  · have q44 : w2.cell? ⟨p1, 44, none⟩ = some (.float .f32 pv) := by rw [X2.out.all.1, HG.out.piv, HPA.out.1]
    have q45 : w2.cell? ⟨p1, 45, none⟩ = some (.float .f32 am) := by rw [X2.out.all.1, HG.out.amt, HPA.out.2]
    cases e1 : (FloatKind.f32.format.order am 1065353216 == some .eq)
    · obtain rfl : R = false := by rw [← HR.out]; unfold neutB; rw [HKK.out]; rw [if_neg (by decide)]; rw [if_neg (by decide)]; rw [if_neg (by decide)]; rw [if_pos rfl]; rw [HPA.out.2]; unfold eqF; rw [e1]; rfl
      go_wp2_with fail
      go_ret2
      exact ⟨rfl, HB.out⟩
    · cases e2 : (FloatKind.f32.format.order pv 0 == some .eq)
      · obtain rfl : R = false := by rw [← HR.out]; unfold neutB; rw [HKK.out]; rw [if_neg (by decide)]; rw [if_neg (by decide)]; rw [if_neg (by decide)]; rw [if_pos rfl]; rw [HPA.out.1, HPA.out.2]; unfold eqF; rw [e1, e2]; rfl
        go_wp2_with fail
        go_ret2
        exact ⟨rfl, HB.out⟩
      · obtain rfl : R = true := by rw [← HR.out]; unfold neutB; rw [HKK.out]; rw [if_neg (by decide)]; rw [if_neg (by decide)]; rw [if_neg (by decide)]; rw [if_pos rfl]; rw [HPA.out.1, HPA.out.2]; unfold eqF; rw [e1, e2]; rfl
        go_wp2_with fail
        go_ret2
        exact ⟨rfl, HB.out⟩
  · obtain ⟨z, hz⟩ : ∃ z, ([n0, n1, n2].all fun n => decide (n = 25)) = z := ⟨_, rfl⟩
    obtain rfl : R = z := by rw [← HR.out, ← hz]; unfold neutB; rw [HKK.out]; rw [if_neg (by decide)]; rw [if_neg (by decide)]; rw [if_neg (by decide)]; rw [if_neg (by decide)]; rw [if_pos rfl]; rw [HFl.out.pts]
    have ept := fun w => eq_i3N 9998 n0 n1 n2 w
    simp only [hz] at ept
    clear hz hk1 hk6
    have q46 : w2.cell? ⟨p1, 46, none⟩ = some (.int .i64 n0) := by rw [X2.out.all.1, HG.out.pts.2 0 (by omega), HFl.out.pts]; rfl
    have q47 : w2.cell? ⟨p1, 47, none⟩ = some (.int .i64 n1) := by rw [X2.out.all.1, HG.out.pts.2 1 (by omega), HFl.out.pts]; rfl
    have q48 : w2.cell? ⟨p1, 48, none⟩ = some (.int .i64 n2) := by rw [X2.out.all.1, HG.out.pts.2 2 (by omega), HFl.out.pts]; rfl
    go_wp2_with fail
    go_ret2
    exact ⟨rfl, HB.out⟩

set_option maxRecDepth 100000 in
set_option maxHeartbeats 16000000 in
theorem ref_Neutral (C : Array Value) (g : Gd) (W : World) (hG : GdAt W C g) (he : gradeErr g = 0) : Calls Tryz.prog 13 #[.agg C] W fun e w' => e = .returned (.bool (neutB g)) ∧ Below W.heap.size W w' := by
  obtain ⟨R, hR⟩ : ∃ R, neutB g = R := ⟨_, rfl⟩
  rw [hR]
  have HR := Lib.hid hR
  have HG := Lib.hid hG
  have HE := Lib.hid he
  obtain ⟨v0, v1, v2, v3, v4, v5, v6, v7, v8, l0, l1, l2, l3, l4, l5, l6, l7, l8, l9, m0, m1, m2, m3, m4, m5, m6, m7, m8, m9, m10, m11, n0, n1, n2, hfl⟩ := hG.flat
  have HFl := Lib.hid hfl
  obtain ⟨kk, hkk⟩ : ∃ kk, g.kind = kk := ⟨_, rfl⟩
  have HKK := Lib.hid hkk
  have hk1 := (right_of he).k1
  have hk6 := (right_of he).k6
  rw [hkk] at hk1 hk6
  obtain ⟨pv, hpv⟩ : ∃ x, g.piv = x := ⟨_, rfl⟩
  obtain ⟨am, ham⟩ : ∃ x, g.amt = x := ⟨_, rfl⟩
  have HPA := Lib.hid (And.intro hpv ham)
  clear hfl hkk hpv ham hG hR he
  go_enter Tryz.func13, Tryz.ntmps13
  go_upto_region 1 with fail
  refine name_world ?_
  intro W1 hW1
  have X1 : Hid (Bx W1 W.heap.size 46 C) := Lib.hid (by rw [hW1]; exact Bx.new W _ C)
  have HW : Hid (Below W.heap.size W W1) := Lib.hid (by rw [hW1]; exact bnew (ob := .cells C 46) (Below.refl _ _))
  obtain ⟨p1, hp1⟩ : ∃ p, W.heap.size = p := ⟨_, rfl⟩
  rw [hp1] at X1 ⊢
  have HP1 := Lib.hid hp1
  clear hW1 hp1
  have hsz : (Tryz.prog.info? 46).map (·.size) = some C.size := by rw [HG.out.size]; exact grade_size
  have X2 := X1
  obtain ⟨w2, hw2⟩ : ∃ w2, W1 = w2 := ⟨_, rfl⟩
  have HB : Hid (Below W.heap.size W W1) := HW
  rw [hw2] at X2 HB ⊢
  clear hw2 hsz
  have q0 : w2.cell? ⟨p1, 0, none⟩ = some (.int .i64 kk) := by rw [X2.out.all.1, HG.out.kind, HKK.out]
  rcases (by omega : kk = 1 ∨ kk = 2 ∨ kk = 3 ∨ kk = 4 ∨ kk = 5 ∨ kk = 6) with rfl | rfl | rfl | rfl | rfl | rfl
  · obtain ⟨z, hz⟩ : ∃ z, eqL [v0, v1, v2, v3, v4, v5, v6, v7, v8] neutW = z := ⟨_, rfl⟩
    obtain rfl : R = z := by rw [← HR.out, ← hz]; unfold neutB; rw [HKK.out]; rw [if_pos rfl]; rw [HFl.out.whe]
    have ewh := fun w => eq_whN v0 v1 v2 v3 v4 v5 v6 v7 v8 w
    simp only [hz] at ewh
    clear hz hk1 hk6
    go_upto_region 4 with fail
    refine name_world ?_
    intro W3 hW3
    have B3 : Hid (Below w2.heap.size w2 W3) := Lib.hid (by rw [hW3]; exact bnew (Below.refl _ _))
    have y0 : ∀ j, W3.cell? ⟨w2.heap.size, j, none⟩ = (#[Value.float .f32 1065353216, .float .f32 1065353216, .float .f32 1065353216] : Array Value)[j]? := fun j => by rw [hW3]; exact (Bx.new w2 32 #[Value.float .f32 1065353216, .float .f32 1065353216, .float .f32 1065353216]).all.1 j
    have X3 := Lib.hid (X2.out.keep B3.out)
    obtain ⟨p5, hp5⟩ : ∃ p, w2.heap.size = p := ⟨_, rfl⟩
    have HP5 := Lib.hid hp5
    rw [hp5] at y0 ⊢
    have z0 := y0 0
    have z1 := y0 1
    have z2 := y0 2
    simp only [List.getElem?_toArray, List.getElem?_cons_zero, List.getElem?_cons_succ] at z0 z1 z2
    have q1 : W3.cell? ⟨p1, 1, none⟩ = some (.float .f32 v0) := by rw [X3.out.all.1, HG.out.whe.2 0 (by omega), HFl.out.whe]; rfl
    have q2 : W3.cell? ⟨p1, 2, none⟩ = some (.float .f32 v1) := by rw [X3.out.all.1, HG.out.whe.2 1 (by omega), HFl.out.whe]; rfl
    have q3 : W3.cell? ⟨p1, 3, none⟩ = some (.float .f32 v2) := by rw [X3.out.all.1, HG.out.whe.2 2 (by omega), HFl.out.whe]; rfl
    have q4 : W3.cell? ⟨p1, 4, none⟩ = some (.float .f32 v3) := by rw [X3.out.all.1, HG.out.whe.2 3 (by omega), HFl.out.whe]; rfl
    have q5 : W3.cell? ⟨p1, 5, none⟩ = some (.float .f32 v4) := by rw [X3.out.all.1, HG.out.whe.2 4 (by omega), HFl.out.whe]; rfl
    have q6 : W3.cell? ⟨p1, 6, none⟩ = some (.float .f32 v5) := by rw [X3.out.all.1, HG.out.whe.2 5 (by omega), HFl.out.whe]; rfl
    have q7 : W3.cell? ⟨p1, 7, none⟩ = some (.float .f32 v6) := by rw [X3.out.all.1, HG.out.whe.2 6 (by omega), HFl.out.whe]; rfl
    have q8 : W3.cell? ⟨p1, 8, none⟩ = some (.float .f32 v7) := by rw [X3.out.all.1, HG.out.whe.2 7 (by omega), HFl.out.whe]; rfl
    have q9 : W3.cell? ⟨p1, 9, none⟩ = some (.float .f32 v8) := by rw [X3.out.all.1, HG.out.whe.2 8 (by omega), HFl.out.whe]; rfl
    clear hW3 hp5 q0 y0
    go_wp2_with fail
    go_ret
    exact ⟨rfl, HB.out.trans (B3.out.mono HB.out.size)⟩
  · obtain rfl : R = false := by rw [← HR.out]; unfold neutB; rw [HKK.out]; rfl
    go_wp2_with fail
    go_ret
    exact ⟨rfl, HB.out⟩
  · obtain rfl : R = !g.cvs.any cvX := by rw [← HR.out, ← all_cvX]; unfold neutB; rw [HKK.out]; rw [if_neg (by decide)]; rw [if_pos rfl]
    obtain ⟨hD1, hD2⟩ := part_cells X2.out 20 12 (by rw [HG.out.size]; omega)
    have HD := Lib.hid (And.intro hD1 hD2)
    clear hD1 hD2
    go_wp2_with (refine wpList_load_cells rfl 40 (.tmp 19) rfl p1 20 rfl (C.extract 20 (20 + 12)) HD.out.2 _ Tryz.underlying40 rfl (by rw [HD.out.1]; exact size_c4) ?_)
    obtain ⟨D, hD⟩ : ∃ D, C.extract 20 (20 + 12) = D := ⟨_, rfl⟩
    rw [hD]
    have HDe := Lib.hid hD
    clear hD q0
    go_loopw [21] (fun i wr => ∃ j : Nat, j ≤ 4 ∧ i = .int .i64 (j : Int) ∧ Hid ((g.cvs.take j).any cvX = false) ∧ Hid (Below W.heap.size W wr)) (fun i _ => 4 - (RowKit.intOf i).toNat)
    case atStart => exact ⟨0, by omega, rfl, Lib.hid rfl, HB⟩
    case round =>
      obtain ⟨j, hj, rfl, HA, HBr⟩ := hrel
      by_cases hlj : j < 4
      · obtain ⟨c3, hc3⟩ : ∃ c3, g.cvs[j]? = some c3 := ⟨_, List.getElem?_eq_getElem (by have := HG.out.cvs.1; omega)⟩
        obtain ⟨vx, vy, e3, slx, sly⟩ := HG.out.cv hc3
        rw [HDe.out] at e3
        obtain ⟨ax, cx, rfl⟩ := slx.sl
        obtain ⟨ay, cy, rfl⟩ := sly.sl
        obtain ⟨nx, hnx⟩ : ∃ n, c3.xs.length = n := ⟨_, rfl⟩
        obtain ⟨ny, hny⟩ : ∃ n, c3.ys.length = n := ⟨_, rfl⟩
        obtain ⟨ck, hck⟩ : ∃ n, c3.kind = n := ⟨_, rfl⟩
        rw [hnx, hny, hck] at e3
        obtain ⟨D3, hD3⟩ : ∃ D3, (#[Value.int .i64 ck, .slice ax nx cx, .slice ay ny cy] : Array Value) = D3 := ⟨_, rfl⟩
        have hone : D3.all (·.oneCell') = true := by rw [← hD3]; simp [Value.oneCell']
        have hcs : D3.size = 3 := by rw [← hD3]; rfl
        have hst := fun w => curve_store w hcs hone
        rw [hD3] at e3
        have hjl : j < g.cvs.length := by have := HG.out.cvs.1; omega
        have hgd : g.cvs.getD j ⟨0, [], []⟩ = c3 := by rw [List.getD_eq_getElem?_getD, hc3]; rfl
        have h1 := any_takeG cvX g.cvs ⟨0, [], []⟩ j hjl
        rw [HA.out, Bool.false_or, hgd] at h1
        have h2 := any_has cvX g.cvs ⟨0, [], []⟩ j hjl
        rw [hgd] at h2
        have hcx : cvX c3 = decide (0 < nx) := by unfold cvX; rw [hnx]
        have HE3 := Lib.hid (And.intro e3 hD3)
        have HC3 := Lib.hid (And.intro h1 (And.intro h2 hcx))
        have hd2 : decide ((j : Int) < 4) = true := decide_eq_true (by omega)
        clear hc3 slx sly hnx hny hck hone hD3 e3 hjl hgd h1 h2 hcx
        go_upto_region 8 with fail
        go_upto_region 9 with (refine wpList_index_cv rfl (.tmp 20) (.tmp 21) rfl rfl rfl hlj HE3.out.1 ?_)
        clear hst hcs
        refine name_world ?_
        intro W2 hW2
        have X4 : Hid (Bx W2 wr.heap.size 39 D3) := Lib.hid (by rw [hW2]; exact Bx.new wr _ D3)
        have HB2 : Hid (Below W.heap.size W W2) := Lib.hid (by rw [hW2]; exact bnew (ob := .cells D3 39) HBr.out)
        obtain ⟨p4, hp4⟩ : ∃ p, wr.heap.size = p := ⟨_, rfl⟩
        rw [hp4] at X4 ⊢
        clear hW2 hp4
        have hD3 := HE3.out.2
        subst hD3
        have r1 := X4.out.all.1 1
        simp only [List.getElem?_toArray, List.getElem?_cons_zero, List.getElem?_cons_succ] at r1
        by_cases hx : 0 < nx
        · have i1 : (nx : Int) > 0 := by omega
          have HX : Hid (g.cvs.any cvX = true) := Lib.hid (HC3.out.2.1 (by rw [HC3.out.2.2, decide_eq_true hx]))
          go_wp2_with fail
          go_ret
          exact ⟨ret_bool' (by rw [HX.out]; rfl), HB2.out⟩
        · have i1 : ¬ (nx : Int) > 0 := by omega
          have HX : Hid ((g.cvs.take (j + 1)).any cvX = false) := Lib.hid (by rw [HC3.out.1, HC3.out.2.2, decide_eq_false hx])
          go_wp2_with fail
          go_roundw
          case rel => exact ⟨j + 1, by omega, by go_num, HX, HB2⟩
          case measure => simp [RowKit.intOf]; omega
      · obtain rfl : j = 4 := by omega
        have HA4 : Hid (g.cvs.any cvX = false) := Lib.hid (by have := HA.out; rw [show g.cvs.take 4 = g.cvs by rw [← HG.out.cvs.1, List.take_length]] at this; exact this)
        go_wp2_with fail
        go_ret
        exact ⟨ret_bool' (by rw [HA4.out]; rfl), HBr.out⟩
  · obtain ⟨z, hz⟩ : ∃ z, eqL [m0, m1, m2, m3, m4, m5, m6, m7, m8, m9, m10, m11] neutM = z := ⟨_, rfl⟩
    obtain rfl : R = z := by rw [← HR.out, ← hz]; unfold neutB; rw [HKK.out]; rw [if_neg (by decide)]; rw [if_neg (by decide)]; rw [if_pos rfl]; rw [HFl.out.mix]
    have emx := fun w => eq_mxN m0 m1 m2 m3 m4 m5 m6 m7 m8 m9 m10 m11 w
    simp only [hz] at emx
    clear hz hk1 hk6
    have q32 : w2.cell? ⟨p1, 32, none⟩ = some (.float .f32 m0) := by rw [X2.out.all.1, HG.out.mix.2 0 (by omega), HFl.out.mix]; rfl
    have q33 : w2.cell? ⟨p1, 33, none⟩ = some (.float .f32 m1) := by rw [X2.out.all.1, HG.out.mix.2 1 (by omega), HFl.out.mix]; rfl
    have q34 : w2.cell? ⟨p1, 34, none⟩ = some (.float .f32 m2) := by rw [X2.out.all.1, HG.out.mix.2 2 (by omega), HFl.out.mix]; rfl
    have q35 : w2.cell? ⟨p1, 35, none⟩ = some (.float .f32 m3) := by rw [X2.out.all.1, HG.out.mix.2 3 (by omega), HFl.out.mix]; rfl
    have q36 : w2.cell? ⟨p1, 36, none⟩ = some (.float .f32 m4) := by rw [X2.out.all.1, HG.out.mix.2 4 (by omega), HFl.out.mix]; rfl
    have q37 : w2.cell? ⟨p1, 37, none⟩ = some (.float .f32 m5) := by rw [X2.out.all.1, HG.out.mix.2 5 (by omega), HFl.out.mix]; rfl
    have q38 : w2.cell? ⟨p1, 38, none⟩ = some (.float .f32 m6) := by rw [X2.out.all.1, HG.out.mix.2 6 (by omega), HFl.out.mix]; rfl
    have q39 : w2.cell? ⟨p1, 39, none⟩ = some (.float .f32 m7) := by rw [X2.out.all.1, HG.out.mix.2 7 (by omega), HFl.out.mix]; rfl
    have q40 : w2.cell? ⟨p1, 40, none⟩ = some (.float .f32 m8) := by rw [X2.out.all.1, HG.out.mix.2 8 (by omega), HFl.out.mix]; rfl
    have q41 : w2.cell? ⟨p1, 41, none⟩ = some (.float .f32 m9) := by rw [X2.out.all.1, HG.out.mix.2 9 (by omega), HFl.out.mix]; rfl
    have q42 : w2.cell? ⟨p1, 42, none⟩ = some (.float .f32 m10) := by rw [X2.out.all.1, HG.out.mix.2 10 (by omega), HFl.out.mix]; rfl
    have q43 : w2.cell? ⟨p1, 43, none⟩ = some (.float .f32 m11) := by rw [X2.out.all.1, HG.out.mix.2 11 (by omega), HFl.out.mix]; rfl
    go_wp2_with fail
    go_ret
    exact ⟨rfl, HB.out⟩
  · have q44 : w2.cell? ⟨p1, 44, none⟩ = some (.float .f32 pv) := by rw [X2.out.all.1, HG.out.piv, HPA.out.1]
    have q45 : w2.cell? ⟨p1, 45, none⟩ = some (.float .f32 am) := by rw [X2.out.all.1, HG.out.amt, HPA.out.2]
    cases e1 : (FloatKind.f32.format.order am 1065353216 == some .eq)
    · obtain rfl : R = false := by rw [← HR.out]; unfold neutB; rw [HKK.out]; rw [if_neg (by decide)]; rw [if_neg (by decide)]; rw [if_neg (by decide)]; rw [if_pos rfl]; rw [HPA.out.2]; unfold eqF; rw [e1]; rfl
      go_wp2_with fail
      go_ret
      exact ⟨rfl, HB.out⟩
    · cases e2 : (FloatKind.f32.format.order pv 0 == some .eq)
      · obtain rfl : R = false := by rw [← HR.out]; unfold neutB; rw [HKK.out]; rw [if_neg (by decide)]; rw [if_neg (by decide)]; rw [if_neg (by decide)]; rw [if_pos rfl]; rw [HPA.out.1, HPA.out.2]; unfold eqF; rw [e1, e2]; rfl
        go_wp2_with fail
        go_ret
        exact ⟨rfl, HB.out⟩
      · obtain rfl : R = true := by rw [← HR.out]; unfold neutB; rw [HKK.out]; rw [if_neg (by decide)]; rw [if_neg (by decide)]; rw [if_neg (by decide)]; rw [if_pos rfl]; rw [HPA.out.1, HPA.out.2]; unfold eqF; rw [e1, e2]; rfl
        go_wp2_with fail
        go_ret
        exact ⟨rfl, HB.out⟩
  · obtain ⟨z, hz⟩ : ∃ z, ([n0, n1, n2].all fun n => decide (n = 25)) = z := ⟨_, rfl⟩
    obtain rfl : R = z := by rw [← HR.out, ← hz]; unfold neutB; rw [HKK.out]; rw [if_neg (by decide)]; rw [if_neg (by decide)]; rw [if_neg (by decide)]; rw [if_neg (by decide)]; rw [if_pos rfl]; rw [HFl.out.pts]
    have ept := fun w => eq_i3N 9998 n0 n1 n2 w
    simp only [hz] at ept
    clear hz hk1 hk6
    have q46 : w2.cell? ⟨p1, 46, none⟩ = some (.int .i64 n0) := by rw [X2.out.all.1, HG.out.pts.2 0 (by omega), HFl.out.pts]; rfl
    have q47 : w2.cell? ⟨p1, 47, none⟩ = some (.int .i64 n1) := by rw [X2.out.all.1, HG.out.pts.2 1 (by omega), HFl.out.pts]; rfl
    have q48 : w2.cell? ⟨p1, 48, none⟩ = some (.int .i64 n2) := by rw [X2.out.all.1, HG.out.pts.2 2 (by omega), HFl.out.pts]; rfl
    go_wp2_with fail
    go_ret
    exact ⟨rfl, HB.out⟩

end Go.Proofs.YticekgnmiaidjaaGreatDoor
