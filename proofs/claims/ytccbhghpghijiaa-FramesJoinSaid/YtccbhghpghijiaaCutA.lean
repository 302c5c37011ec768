/- frame.Same, has, offset, Take, Fill, Clean; dyeref1.Same. -/
import Derived.Test.YtccbhghpghijiaaEch
import Derived.Test.YtccbhghpghijiaaChg
import Derived.Test.YtccbhghpghijiaaReg
import Derived.Test.YtccbhghpghijiaaTail
namespace Go.Proofs.Ytccbhghpghijiaa
open Go.RowKit

/-- All singles have the same bits. -/
def allSame (n : Nat) (xs ys : List Nat) : Bool := (List.range n).all fun k => canon (xs.getD k 0) == canon (ys.getD k 0)
theorem allSame_of {n : Nat} {xs ys : List Nat} (h : ∀ k, k < n → canon (xs.getD k 0) = canon (ys.getD k 0)) : allSame n xs ys = true := by
  unfold allSame
  rw [List.all_eq_true]
  intro k hk
  rw [h k (List.mem_range.1 hk)]
  simp
theorem allSame_not {n k : Nat} {xs ys : List Nat} (hk : k < n) (h : ¬ canon (xs.getD k 0) = canon (ys.getD k 0)) : allSame n xs ys = false := by
  unfold allSame
  rw [List.all_eq_false]
  exact ⟨k, List.mem_range.2 hk, by simpa using h⟩

theorem num_Bits_at (b k : Nat) (hv : canon b = k) (w : World) : Calls Try.prog 14 #[.float .f32 b] w fun e w' => e = .returned (.int .u32 k) ∧ w = w' := by
  subst hv
  exact num_Bits b w
end Go.Proofs.Ytccbhghpghijiaa
