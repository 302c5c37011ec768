/- The singles of a channel: frame.Plane and the reference's. -/
import Derived.Test.YtckadkobgmnoeaaDoorChg
import Derived.Test.YtckadkobgmnoeaaDoorRel
import Derived.OwnWalk
namespace Go.Proofs.YtckadkobgmnoeaaDoor
open Go.RowKit

/-- The singles of a channel. -/
def planeL (xs : List Nat) (M ch : Nat) : List Nat := (List.range M).map fun i => canon (xs.getD (4 * i + ch) 0)
theorem planeL_len (xs : List Nat) (M ch : Nat) : (planeL xs M ch).length = M := by simp [planeL]

/-- A slice of singles that the call itself grows. -/
def Ow (w : World) (B : Nat) (v : Value) (xs : List Nat) : Prop := w.ownsRow B 39 1 v xs.length (xs.map (Value.float .f32))
theorem Ow.rd {w : World} {B : Nat} {v : Value} {xs : List Nat} (h : Ow w B v xs) (hne : xs ≠ []) : ∃ g c, v = .slice (some ⟨g, 0, none⟩) xs.length c ∧ xs.length ≤ c ∧ B ≤ g ∧ Rd w g 0 xs := by
  rcases h.2 with ⟨_, h0⟩ | ⟨g, cap, cur, rfl, hb, hg, hnc, hcm, hcs, htake⟩
  · exact absurd (List.length_eq_zero_iff.1 h0) hne
  · refine ⟨g, cap, rfl, hnc, hb, (Array.getElem?_eq_some_iff.1 hg).1, fun k hk => ?_⟩
    rw [Nat.zero_add, cell_of_row w g k cur _ (0, 0) hg]
    have h1 : (cur.toList.take (xs.length * 1))[k]? = (xs.map (Value.float .f32))[k]? := by rw [htake]
    rw [List.getElem?_take, if_pos (by omega)] at h1
    simpa [hk] using h1

end Go.Proofs.YtckadkobgmnoeaaDoor
