/- key.covered of a right window with whole coordinates. -/
import Derived.Test.YtfkiljhjiogdlaaWnD
namespace Go.Proofs.Ytfkiljhjiogdlaa
open Go.RowKit

theorem nz_of {b : Nat} (h : isNum b = true) (he : eqF b 0 = false) : nzF b := by
  obtain ⟨s, m, i, hr⟩ := isNum_rd h
  refine ⟨s, m, i, hr, fun hm => ?_⟩
  have h1 : ((rd b).order (rd 0) == some .eq) = false := he
  rw [hr, rd_zero, hm] at h1
  have z : ∀ k, Ieee.signed s 0 k = 0 := fun k => by rw [signed_pow]; cases s <;> simp
  have z2 : ∀ k, Ieee.signed false 0 k = 0 := fun k => by rw [signed_pow]; simp
  simp only [Ieee.Datum.order, z, z2] at h1
  revert h1; decide
theorem win_ok {kind : Int} {X Y Wd H S : Nat} {ps : List (Int × Int)} (h : winErr kind X Y Wd H S ps = 0) :
    (kind = 1 ∨ kind = 2 ∨ kind = 3) ∧ isNum X = true ∧ isNum Y = true ∧ isNum Wd = true ∧ isNum H = true ∧ isNum S = true ∧ (kind = 2 → nzF Wd ∧ nzF H) ∧ ps.length ≤ 32 ∧
    (∀ k, k < ps.length → -1048576 ≤ (ps.getD k default).1 ∧ (ps.getD k default).1 ≤ 1048576 ∧ -1048576 ≤ (ps.getD k default).2 ∧ (ps.getD k default).2 ≤ 1048576) := by
  unfold winErr at h
  by_cases c1 : kind ≠ 1 ∧ kind ≠ 2 ∧ kind ≠ 3
  · rw [if_pos c1] at h; omega
  rw [if_neg c1] at h
  by_cases c2 : [X, Y, Wd, H, S].all isNum = false
  · rw [if_pos c2] at h; omega
  rw [if_neg c2] at h
  split at h
  · omega
  split at h
  · omega
  rename_i c4
  split at h
  · omega
  rename_i c5
  split at h
  · omega
  rename_i c6
  have c2 : [X, Y, Wd, H, S].all isNum = true := by simpa using c2
  simp only [List.all_cons, List.all_nil, Bool.and_true, Bool.and_eq_true] at c2
  obtain ⟨n1, n2, n3, n4, n5⟩ := c2
  refine ⟨by omega, n1, n2, n3, n4, n5, fun hk => ?_, by omega, fun k hk => ?_⟩
  · have : ¬ (eqF Wd 0 || eqF H 0) = true := fun hh => c6 (.inr ⟨hk, hh⟩)
    simp only [Bool.or_eq_true, not_or, Bool.not_eq_true] at this
    exact ⟨nz_of n3 this.1, nz_of n4 this.2⟩
  · have c5 : ps.any badP = false := by simpa using c5
    have hb : badP (ps.getD k default) = false := by
      have e : ps.getD k default = ps[k] := by simp [List.getD, hk]
      rw [e]
      rw [List.any_eq_false] at c5
      simpa using c5 _ (List.getElem_mem hk)
    unfold badP plB at hb
    simp only [Bool.or_eq_false_iff, Bool.not_eq_false', Bool.and_eq_true, decide_eq_true_eq] at hb
    omega
/-- What a window has at a place. -/
def covAt (kind : Int) (ix iy : Int) (Wd H S : Nat) (ps : List (Int × Int)) (out : Bool) (x y : Int) : Nat :=
  covB kind (floatOfInt .f32 (x - ix)) (floatOfInt .f32 (y - iy)) Wd H S (decide (kind = 3) && decide (crossTo ps x y ps.length % 2 = 1)) out
theorem covAt_nn {kind : Int} {X Y Wd H S : Nat} {ps : List (Int × Int)} (ix iy : Int) (out : Bool) (x y : Int) (h : winErr kind X Y Wd H S ps = 0) (b1 : -200000 ≤ ix) (b2 : ix ≤ 200000) (b3 : -200000 ≤ iy) (b4 : iy ≤ 200000)
    (x1 : -2097152 ≤ x) (x2 : x ≤ 2097152) (y1 : -2097152 ≤ y) (y2 : y ≤ 2097152) : isNaN (covAt kind ix iy Wd H S ps out x y) = false := by
  obtain ⟨_, _, _, n3, n4, n5, n6, _, _⟩ := win_ok h
  obtain ⟨_, m, p, hr, hb⟩ := ofInt_val (n := x - ix) (by omega) (by omega)
  obtain ⟨_, m2, p2, hr2, hb2⟩ := ofInt_val (n := y - iy) (by omega) (by omega)
  obtain ⟨_, _, _, _, _, k1, l1, a1⟩ := abs_ok hr hb
  obtain ⟨_, _, _, _, _, k2, l2, a2⟩ := abs_ok hr2 hb2
  exact cov_nn ⟨_, _, _, hr⟩ ⟨_, _, _, hr2⟩ ⟨_, _, _, a1⟩ ⟨_, _, _, a2⟩ (isNum_rd n3) (isNum_rd n4) (isNum_rd n5) n6
theorem key_covered (kind : Int) (X Y Wd H S : Nat) (pv : Value) (ps : List (Int × Int)) (out : Bool) (x y ix iy : Int) (W : World) (hs : SlP W pv ps) (h : winErr kind X Y Wd H S ps = 0) (hX : Val X ix) (hY : Val Y iy)
    (b1 : -200000 ≤ ix) (b2 : ix ≤ 200000) (b3 : -200000 ≤ iy) (b4 : iy ≤ 200000) (x1 : -2097152 ≤ x) (x2 : x ≤ 2097152) (y1 : -2097152 ≤ y) (y2 : y ≤ 2097152) :
    Calls Try.prog 28 #[.agg #[.int .i64 kind, .float .f32 X, .float .f32 Y, .float .f32 Wd, .float .f32 H, .float .f32 S, pv, .bool out], .int .i64 x, .int .i64 y] W fun e w' => e = .returned (.float .f32 (covAt kind ix iy Wd H S ps out x y)) ∧ Below W.heap.size W w' := by
  obtain ⟨hk, _, _, n3, n4, n5, n6, n7, n8⟩ := win_ok h
  obtain ⟨_, m, p, hr, hb⟩ := ofInt_val (n := x - ix) (by omega) (by omega)
  obtain ⟨_, m2, p2, hr2, hb2⟩ := ofInt_val (n := y - iy) (by omega) (by omega)
  have edx := sub_ofInt (x := x) (i := ix) (by omega) (by omega) hX
  have edy := sub_ofInt (x := y) (i := iy) (by omega) (by omega) hY
  have q3 := isNum_rd n3
  have q4 := isNum_rd n4
  have q5 := isNum_rd n5
  unfold covAt
  rcases hk with rfl | rfl | rfl
  · exact covered_box x y X Y Wd H S pv out _ _ W edx edy ⟨_, _, _, hr, hb⟩ ⟨_, _, _, hr2, hb2⟩ q3 q4 q5 _
  · exact covered_ell x y X Y Wd H S pv out _ _ W edx edy ⟨_, _, _, hr, hb⟩ ⟨_, _, _, hr2, hb2⟩ q3 q4 q5 (n6 rfl) _
  · exact covered_pol x y X Y Wd H S pv out _ _ W edx edy ⟨_, _, _, hr, hb⟩ ⟨_, _, _, hr2, hb2⟩ q3 q4 q5 ps hs (by omega) n8 x1 x2 y1 y2
end Go.Proofs.Ytfkiljhjiogdlaa
