/- dyeref2.First, for a list of whatever length. -/
import Derived.Test.YticekgnmiaidjaaGreatDoorMem
import Derived.RegionTactic
import Derived.BigGuardPart
namespace Go.Proofs.YticekgnmiaidjaaGreatDoor
open Go.RowKit

/-- The first of errors that is one. -/
def firstL : List Int → Int
  | [] => 0
  | a :: l => if a = 0 then firstL l else a
theorem firstL_zero (l : List Int) (h : ∀ j, j < l.length → l.getD j 0 = 0) : firstL l = 0 := by
  induction l with
  | nil => rfl
  | cons a l ih =>
    have h0 := h 0 (by simp)
    simp at h0
    rw [firstL, if_pos h0]
    exact ih fun j hj => by have := h (j + 1) (by simpa using hj); simpa using this
theorem firstL_at (l : List Int) (k : Nat) (hk : k < l.length) (h : ∀ j, j < k → l.getD j 0 = 0) (hne : l.getD k 0 ≠ 0) : firstL l = l.getD k 0 := by
  induction l generalizing k with
  | nil => simp at hk
  | cons a l ih =>
    cases k with
    | zero => simp at hne; rw [firstL, if_neg hne]; simp
    | succ k =>
      have h0 := h 0 (by omega)
      simp at h0
      rw [firstL, if_pos h0, ih k (by simpa using hk) (fun j hj => by have := h (j + 1) (by omega); simpa using this) (by simpa using hne)]
      simp

end Go.Proofs.YticekgnmiaidjaaGreatDoor
