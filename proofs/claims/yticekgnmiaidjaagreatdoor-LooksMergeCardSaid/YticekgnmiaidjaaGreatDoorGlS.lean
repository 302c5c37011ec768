/- A slice of grades. -/
import Derived.Test.YticekgnmiaidjaaGreatDoorGrU
namespace Go.Proofs.YticekgnmiaidjaaGreatDoor
open Go.RowKit Go.Lib

/-- The slice v has the grades gs. -/
def SlG (w : World) (v : Value) (gs : List Gd) : Prop :=
  ∃ a c, v = .slice a gs.length c ∧ gs.length ≤ c ∧ c ≤ maxLen ∧ (gs = [] ∨ ∃ b o, a = some ⟨b, o, none⟩ ∧ b < w.heap.size ∧ GlAt w b o gs)
theorem GlAt.keep {w w' : World} {b o : Nat} {gs : List Gd} (h : GlAt w b o gs) (hb : Below w.heap.size w w') : GlAt w' b o gs := fun k g hg => by
  obtain ⟨C, hC, hc⟩ := h k g hg
  refine ⟨C, hC.keep hb, fun j v hj => ?_⟩
  have := hc j v hj
  exact (hb.cell (World.block_lt_of_cell? _ _ this)).trans this
theorem SlG.keep {w w' : World} {v : Value} {gs : List Gd} (h : SlG w v gs) (hb : Below w.heap.size w w') : SlG w' v gs := by
  obtain ⟨a, c, h1, h2, h3, h4⟩ := h
  refine ⟨a, c, h1, h2, h3, ?_⟩
  rcases h4 with h4 | ⟨b, o, e, hl, hG⟩
  · exact .inl h4
  · exact .inr ⟨b, o, e, Nat.lt_of_lt_of_le hl hb.size, hG.keep hb⟩
end Go.Proofs.YticekgnmiaidjaaGreatDoor
