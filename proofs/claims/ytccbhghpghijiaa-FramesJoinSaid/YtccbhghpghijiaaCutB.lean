/- frame.has, offset, Take, Fill, Clean, Put, At. -/
import Derived.Test.YtccbhghpghijiaaCutA
import Derived.Test.YtccbhghpghijiaaFrBx
import Derived.Test.YtccbhghpghijiaaRel
import Derived.BigGuardPart
namespace Go.Proofs.Ytccbhghpghijiaa
open Go.RowKit

/-- The region has the place. -/
def hasB (rx ry rw rh x y : Int) : Bool := decide (rx ≤ x) && decide (ry ≤ y) && decide (x < rx + rw) && decide (y < ry + rh)

set_option maxHeartbeats 400000 in
theorem frame_offset (rx ry : Int) (w : Nat) (h : Int) (i j : Nat) (W : World) (h1 : -10000000 ≤ rx) (h2 : rx ≤ 10000000) (h3 : -10000000 ≤ ry) (h4 : ry ≤ 10000000) (hw : w ≤ 256) (hi : i ≤ 256) (hj : j ≤ 256) :
    Calls Try.prog 18 #[.agg #[.int .i64 rx, .int .i64 ry, .int .i64 (w : Int), .int .i64 h], .int .i64 (rx + (i : Int)), .int .i64 (ry + (j : Int))] W fun e w' => e = .returned (.int .i64 ((4 * (j * w + i) : Nat) : Int)) ∧ Below W.heap.size W w' := by
  have hjw : j * w ≤ 256 * 256 := Nat.mul_le_mul hj hw
  obtain ⟨q, hq⟩ : ∃ q : Nat, j * w = q := ⟨_, rfl⟩
  have hcast : (j : Int) * (w : Int) = (q : Int) := by rw [← hq]; push_cast; rfl
  have hmul : wrap64 ((j : Int) * (w : Int)) = (q : Int) := by
    rw [hcast]
    exact IntWalk.wrap64_in _ ⟨by omega, by omega⟩
  rw [hq] at hjw ⊢
  clear hcast
  have e1 : ry + (j : Int) - ry = (j : Int) := by omega
  clear hq
  go_enter Try.func18, Try.ntmps18
  go_wp2_with fail
  go_ret
  exact ⟨ret_int (by push_cast; omega), bnew (Below.refl _ W)⟩

/-- The singles with another pixel at F. -/
def putV (xs : List Nat) (F : Nat) (p : Nat → Nat) (k : Nat) : Nat := if F ≤ k ∧ k < F + 4 then p (k - F) else xs.getD k 0

end Go.Proofs.Ytccbhghpghijiaa
