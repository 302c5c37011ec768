/- Regions: the checks of the program and of the references, walked. -/
import Derived.Test.YtlfcedecobebmaaSc
import Derived.BigGuardPart
namespace Go.Proofs.Ytlfcedecobebmaa
open Go.RowKit

def outB (a s : Int) : Bool := decide (a < -1048576) || decide (1048576 - s < a)

theorem out_any (a s : Int) (w : World) (h1 : 1 ≤ s) (h2 : s ≤ 256) :
    Calls Try.prog 58 #[.int .i64 a, .int .i64 s] w fun e w' => e = .returned (.bool (outB a s)) ∧ w = w' := by
  by_cases h : a < -1048576
  · go_enter Try.func58, Try.ntmps58
    go_wp2
    go_ret
    exact ⟨ret_bool (by simp [outB, h]), rfl⟩
  · by_cases h' : 1048576 - s < a
    all_goals
      go_enter Try.func58, Try.ntmps58
      go_wp2
      go_ret
      exact ⟨ret_bool (by simp [outB, h, h']), rfl⟩

def checkRegion (x y w h : Int) : Int :=
  if w < 1 ∨ 256 < w ∨ h < 1 ∨ 256 < h then 3
  else if 16384 < w * h then 4
  else if outB x w || outB y h then 5 else 0

theorem mul_bd (w h : Int) (a : 1 ≤ w) (b : w ≤ 256) (c : 1 ≤ h) (d : h ≤ 256) : 1 ≤ w * h ∧ w * h ≤ 65536 := by
  have h1 : 1 * 1 ≤ w * h := Int.mul_le_mul a c (by omega) (by omega)
  have h2 : w * h ≤ 256 * 256 := Int.mul_le_mul b d (by omega) (by omega)
  omega
theorem wrap_mul (w h : Int) (a : 1 ≤ w) (b : w ≤ 256) (c : 1 ≤ h) (d : h ≤ 256) : wrap64 (w * h) = w * h := by
  have := mul_bd w h a b c d
  exact IntWalk.wrap64_in _ ⟨by omega, by omega⟩

theorem frame_CheckRegion (x y w h : Int) (W : World) :
    Calls Try.prog 43 #[.agg #[.int .i64 x, .int .i64 y, .int .i64 w, .int .i64 h]] W fun e w' => e = .returned (.int .i64 (checkRegion x y w h)) ∧ Below W.heap.size W w' := by
  go_enter Try.func43, Try.ntmps43
  go_wp2_with (go_at_call 58; refine (out_any _ _ _ (by omega) (by omega)).mono ?_; rintro e w' ⟨rfl, rfl⟩)
  all_goals go_ret
  all_goals refine ⟨ret_int ?_, (Below.refl _ _).alloc (Nat.le_refl _) _⟩
  all_goals unfold checkRegion
  all_goals first
    | rw [if_pos (by omega)]
    | (rw [if_neg (by omega)]
       have hw := wrap_mul w h (by assumption) (by assumption) (by assumption) (by assumption)
       simp_all
       try omega)
end Go.Proofs.Ytlfcedecobebmaa
