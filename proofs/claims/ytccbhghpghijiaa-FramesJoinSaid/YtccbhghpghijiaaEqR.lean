/- slices.Equal at regions. -/
import Derived.Test.YtccbhghpghijiaaTil
namespace Go.Proofs.Ytccbhghpghijiaa
open Go.RowKit

/-- A slice of regions that reads as the first N of T. -/
def RgS (w : World) (v : Value) (N : Nat) (T : Nat → Int × Int × Int × Int) : Prop :=
  (N = 0 ∧ ∃ a c, v = .slice a 0 c) ∨
  ∃ g c, v = .slice (some ⟨g, 0, none⟩) N c ∧ N ≤ c ∧ g < w.heap.size ∧ ∀ k, k < N → w.cell? ⟨g, k * 4, none⟩ = some (.int .i64 (T k).1) ∧ w.cell? ⟨g, k * 4 + 1, none⟩ = some (.int .i64 (T k).2.1) ∧ w.cell? ⟨g, k * 4 + 2, none⟩ = some (.int .i64 (T k).2.2.1) ∧ w.cell? ⟨g, k * 4 + 3, none⟩ = some (.int .i64 (T k).2.2.2)

end Go.Proofs.Ytccbhghpghijiaa
