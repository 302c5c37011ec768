/- frame.FromPlanes: its closure, each. -/
import Derived.Test.YtccbhghpghijiaaPln
import Derived.Test.YtccbhghpghijiaaTail
namespace Go.Proofs.Ytccbhghpghijiaa
open Go.RowKit

/-- A block that holds four slices of M singles. -/
def Four (w : World) (pb : Nat) (M : Nat) (F : Nat → List Nat) : Prop :=
  ∃ (ss : Array Value) (T : TypeId), Bx w pb T ss ∧ ss.size = 4 ∧ ∀ c, c < 4 → (F c).length = M ∧ ∃ g o k, ss[c]? = some (.slice (some ⟨g, o, none⟩) M k) ∧ Rd w g o (F c)
theorem Four.keep {w w' : World} {pb M : Nat} {F : Nat → List Nat} (h : Four w pb M F) (hb : Below w.heap.size w w') : Four w' pb M F := by
  obtain ⟨ss, T, h1, h2, h3⟩ := h
  refine ⟨ss, T, h1.keep hb, h2, fun c hc => ?_⟩
  obtain ⟨hl, g, o, k, e, r⟩ := h3 c hc
  exact ⟨hl, g, o, k, e, r.keep hb⟩

theorem row_at (w : World) (n g : Nat) (h : w.heap.size = g) : Row (w.alloc (.cells (madeCells #[.float .f32 0] n) 43)) g n (List.replicate n 0) := by subst h; exact Row.made w n

end Go.Proofs.Ytccbhghpghijiaa
