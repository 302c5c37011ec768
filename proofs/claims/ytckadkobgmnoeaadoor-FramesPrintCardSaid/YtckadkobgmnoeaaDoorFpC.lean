/- dyeref1.hexSingle: the bits of a single, of eight digits. -/
import Derived.Test.YtckadkobgmnoeaaDoorFpB
namespace Go.Proofs.YtckadkobgmnoeaaDoor
open Go.RowKit

theorem hexF_lt : ∀ (l : List UInt8) (b r k : Nat), b < 16 ^ k → hexF b l = some r → r < 16 ^ (k + l.length)
  | [], b, r, k, hb, h => by rw [hexF] at h; cases h; simpa using hb
  | c :: l, b, r, k, hb, h => by
    rw [hexF] at h
    split at h
    · cases h
    · have := hexF_lt l _ r (k + 1) (pow_step hb (by have := hexD_lt c; omega)) h
      rw [List.length_cons, show k + (l.length + 1) = k + 1 + l.length by omega]; exact this
/-- The reference asks of each sign whether it is a digit. -/
theorem hexF_some : ∀ (l : List UInt8) (b : Nat), (∀ c, c ∈ l → ¬ hexD c < 0) → ∃ r, hexF b l = some r
  | [], b, _ => ⟨b, rfl⟩
  | c :: l, b, h => by
    rw [hexF, if_neg (h c (List.mem_cons_self ..))]
    exact hexF_some l _ fun d hd => h d (List.mem_cons_of_mem _ hd)
theorem hexF_none : ∀ (l : List UInt8) (b : Nat) (c : UInt8), c ∈ l → hexD c < 0 → hexF b l = none
  | d :: l, b, c, h, hc => by
    rw [hexF]
    split
    · rfl
    · rename_i hd
      rcases List.mem_cons.1 h with rfl | h
      · exact absurd hc hd
      · exact hexF_none l _ c h hc

end Go.Proofs.YtckadkobgmnoeaaDoor
