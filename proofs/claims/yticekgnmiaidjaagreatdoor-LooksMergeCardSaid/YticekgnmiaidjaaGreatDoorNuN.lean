/- slices.EqualFunc with SameGrade, at two lists of the same grades. (printed by gen_nun.py) -/
import Derived.Test.YticekgnmiaidjaaGreatDoorNuE
import Derived.Test.YticekgnmiaidjaaGreatDoorGlS
import Derived.Test.YticekgnmiaidjaaGreatDoorGnJ
import Derived.Test.YticekgnmiaidjaaGreatDoorInv
namespace Go.Proofs.YticekgnmiaidjaaGreatDoor
open Go.RowKit Go.Lib

/-- A grade of a slice, at hand in a later world. -/
theorem SlG.row {W w : World} {v : Value} {gs : List Gd} (h : SlG W v gs) (hb : Below W.heap.size W w) {k : Nat} {g : Gd} (hg : gs[k]? = some g) : ∃ b o c C, v = .slice (some ⟨b, o, none⟩) gs.length c ∧ GdAt w C g ∧ ∀ (j : Nat) (u : Value), C[j]? = some u → w.cell? ⟨b, o + k * 49 + j, none⟩ = some u := by
  obtain ⟨a, c, rfl, _, _, h0 | ⟨b, o, rfl, hl, hG⟩⟩ := h
  · rw [h0] at hg; simp at hg
  · obtain ⟨C, hC, hc⟩ := hG k g hg
    exact ⟨b, o, c, C, rfl, hC.keep hb, fun j u hj => by rw [hb.cell (p := ⟨b, o + k * 49 + j, none⟩) hl]; exact hc j u hj⟩
end Go.Proofs.YticekgnmiaidjaaGreatDoor
