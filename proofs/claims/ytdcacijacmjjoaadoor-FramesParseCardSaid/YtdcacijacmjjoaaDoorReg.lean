/- Regions: the reference's check, growing, the common part. -/
import Derived.Test.YtdcacijacmjjoaaDoorMem
namespace Go.Proofs.YtdcacijacmjjoaaDoor
open Go.RowKit

theorem ref_In_true (a lo hi : Int) (W : World) (h1 : lo ≤ a) (h2 : a ≤ hi) :
    Calls Tryd.prog 29 #[.int .i64 a, .int .i64 lo, .int .i64 hi] W fun e w' => e = .returned (.bool true) ∧ W = w' := by
  go_enter Tryd.func29, Tryd.ntmps29
  go_wp2
  go_ret
  exact ⟨ret_bool (by simp <;> omega), rfl⟩
theorem ref_In_false (a lo hi : Int) (W : World) (h : ¬ (lo ≤ a ∧ a ≤ hi)) :
    Calls Tryd.prog 29 #[.int .i64 a, .int .i64 lo, .int .i64 hi] W fun e w' => e = .returned (.bool false) ∧ W = w' := by
  by_cases h1 : lo ≤ a
  · have h2 : ¬ a ≤ hi := by omega
    go_enter Tryd.func29, Tryd.ntmps29
    go_wp2
    go_ret
    exact ⟨ret_bool (by simp <;> omega), rfl⟩
  · go_enter Tryd.func29, Tryd.ntmps29
    go_wp2
    go_ret
    exact ⟨ret_bool (by simp), rfl⟩

theorem checkRegion_zero {x y w h : Int} (hc : checkRegion x y w h = 0) : 1 ≤ w ∧ w ≤ 256 ∧ 1 ≤ h ∧ h ≤ 256 ∧ w * h ≤ 16384 ∧ -1048576 ≤ x ∧ x ≤ 1048576 - w ∧ -1048576 ≤ y ∧ y ≤ 1048576 - h := by
  unfold checkRegion at hc
  split at hc
  · omega
  · split at hc
    · omega
    · split at hc
      · omega
      · simp [outB] at *
        omega

set_option maxRecDepth 100000 in
set_option maxHeartbeats 1000000 in
set_option maxRecDepth 100000 in
theorem ref_RegionError (x y w h : Int) (W : World) :
    Calls Tryd.prog 17 #[.agg #[.int .i64 x, .int .i64 y, .int .i64 w, .int .i64 h]] W fun e w' => e = .returned (.int .i64 (checkRegion x y w h)) ∧ Below W.heap.size W w' := by
  by_cases hw : 1 ≤ w ∧ w ≤ 256
  · by_cases hh : 1 ≤ h ∧ h ≤ 256
    · obtain ⟨w1, w2⟩ := hw
      obtain ⟨h1, h2⟩ := hh
      have hwr := wrap_mul w h w1 w2 h1 h2
      go_enter Tryd.func17, Tryd.ntmps17
      go_wp2_with (go_at_call 29; refine (ref_In_true _ _ _ _ (by omega) (by omega)).mono ?_; rintro e w' ⟨rfl, rfl⟩)
      all_goals go_ret
      all_goals refine ⟨ret_int ?_, (Below.refl _ _).alloc (Nat.le_refl _) _⟩
      all_goals unfold checkRegion
      all_goals rw [if_neg (by omega)]
      all_goals simp only [outB, Bool.or_eq_true, decide_eq_true_eq]
      all_goals clear hwr
      all_goals (split <;> first | omega | (split <;> omega))
    · go_enter Tryd.func17, Tryd.ntmps17
      go_wp2_with (first
        | (go_at_call 29; refine (ref_In_true _ _ _ _ (by omega) (by omega)).mono ?_; rintro e w' ⟨rfl, rfl⟩)
        | (go_at_call 29; refine (ref_In_false _ _ _ _ (by omega)).mono ?_; rintro e w' ⟨rfl, rfl⟩))
      all_goals go_ret
      all_goals refine ⟨ret_int ?_, (Below.refl _ _).alloc (Nat.le_refl _) _⟩
      all_goals (unfold checkRegion; rw [if_pos (by omega)])
  · go_enter Tryd.func17, Tryd.ntmps17
    go_wp2_with (go_at_call 29; refine (ref_In_false _ _ _ _ (by omega)).mono ?_; rintro e w' ⟨rfl, rfl⟩)
    all_goals go_ret
    all_goals refine ⟨ret_int ?_, (Below.refl _ _).alloc (Nat.le_refl _) _⟩
    all_goals (unfold checkRegion; rw [if_pos (by omega)])

/-- Four integers as a region's value. -/
def rgV (r : Int × Int × Int × Int) : Value := .agg #[.int .i64 r.1, .int .i64 r.2.1, .int .i64 r.2.2.1, .int .i64 r.2.2.2]
def rg0 : Int × Int × Int × Int := (0, 0, 0, 0)

/-- What growing answers. -/
def growOf (x y w h n : Int) : (Int × Int × Int × Int) × Int :=
  if checkRegion x y w h = 0 then
    if n < -256 ∨ 256 < n then (rg0, 3)
    else if checkRegion (x - n) (y - n) (w + 2 * n) (h + 2 * n) = 0 then ((x - n, y - n, w + 2 * n, h + 2 * n), 0)
    else (rg0, checkRegion (x - n) (y - n) (w + 2 * n) (h + 2 * n))
  else (rg0, checkRegion x y w h)

theorem name_callw {P : Program} {f : FuncId} {args : Array Value} {w0 : World} {Q : Ending → World → Prop} (h : ∀ wb, wb = w0 → Calls P f args wb Q) : Calls P f args w0 Q := h _ rfl

end Go.Proofs.YtdcacijacmjjoaaDoor
