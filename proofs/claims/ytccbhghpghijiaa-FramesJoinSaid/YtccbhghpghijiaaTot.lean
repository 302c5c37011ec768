/- The totals of a frame: frame.Total and the reference's. -/
import Derived.Test.YtccbhghpghijiaaPln
import Derived.Test.YtccbhghpghijiaaSum
namespace Go.Proofs.Ytccbhghpghijiaa
open Go.RowKit

theorem alloc_sz (w : World) (ob : Obj) : (w.alloc ob).heap.size = w.heap.size + 1 := by simp
/-- The sum of channel ch. -/
def totOf (xs : List Nat) (M ch : Nat) : Nat := sumC M (planeL xs M ch)
theorem canon_tot (xs : List Nat) (M ch : Nat) : canon (totOf xs M ch) = totOf xs M ch := canon_sumC _ _

/-- Four cells, of which the first k are laid. -/
def four (k : Nat) (F : Nat → Nat) : Array Value := ((fillTo 4 k F).map (Value.float .f32)).toArray
theorem four_zero (F : Nat → Nat) : four 0 F = #[.float .f32 0, .float .f32 0, .float .f32 0, .float .f32 0] := by
  unfold four
  rw [fillTo_zero]
  rfl
theorem four_full (F : Nat → Nat) : four 4 F = #[.float .f32 (F 0), .float .f32 (F 1), .float .f32 (F 2), .float .f32 (F 3)] := by
  unfold four
  rw [fillTo_full]
  rfl
theorem four_set (k : Nat) (F : Nat → Nat) (hk : k < 4) : (four k F).setIfInBounds k (.float .f32 (F k)) = four (k + 1) F := by
  unfold four
  rw [← fillTo_set 4 k F hk, List.map_set]
  simp
theorem four_at (k : Nat) (F : Nat → Nat) (hk : k < 4) : (four k F)[k]? = some (.float .f32 ((fillTo 4 k F).getD k 0)) := by
  unfold four
  have := fillTo_len 4 k F
  simp [this, hk]

end Go.Proofs.Ytccbhghpghijiaa
