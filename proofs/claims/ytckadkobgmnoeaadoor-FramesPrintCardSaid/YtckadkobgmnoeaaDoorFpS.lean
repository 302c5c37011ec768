/- A frame's text as it is printed, single by single. No program in sight. -/
import Derived.Test.YtckadkobgmnoeaaDoorFpR
namespace Go.Proofs.YtckadkobgmnoeaaDoor

def sepAt (w k : Nat) : List UInt8 := if (k + 1) % (4 * w) = 0 then [10] else if (k + 1) % 4 = 0 then [32, 124, 32] else [32]
def textTo (f : Nat → Nat) (w : Nat) : Nat → List UInt8
  | 0 => []
  | k + 1 => textTo f w k ++ (hex8 (f k) ++ sepAt w k)
theorem sep_len (w k : Nat) : 1 ≤ (sepAt w k).length ∧ (sepAt w k).length ≤ 3 := by
  unfold sepAt
  split
  · exact ⟨by decide, by decide⟩
  · split
    · exact ⟨by decide, by decide⟩
    · exact ⟨by decide, by decide⟩
theorem textTo_len (f : Nat → Nat) (w : Nat) : ∀ k, (textTo f w k).length ≤ 11 * k
  | 0 => Nat.zero_le _
  | k + 1 => by
    have h1 := textTo_len f w k
    have h2 := (sep_len w k).2
    have h3 : (hex8 (f k)).length = 8 := rfl
    rw [textTo, List.length_append, List.length_append]; omega
theorem sep_in (w m i : Nat) (hi : i < 3) : sepAt w (4 * m + i) = [32] := by
  have h1 : (4 * m + i + 1) % 4 ≠ 0 := by omega
  unfold sepAt
  rw [if_neg, if_neg h1]
  intro h
  have h2 : 4 ∣ (4 * m + i + 1) := Nat.dvd_trans ⟨w, rfl⟩ (Nat.dvd_of_mod_eq_zero h)
  exact h1 (Nat.mod_eq_zero_of_dvd h2)
theorem sep_end (w m : Nat) : sepAt w (4 * m + 3) = if (m + 1) % w = 0 then [10] else [32, 124, 32] := by
  unfold sepAt
  rw [show 4 * m + 3 + 1 = 4 * (m + 1) by omega, Nat.mul_mod_mul_left]
  by_cases h : (m + 1) % w = 0
  · rw [if_pos (by rw [h]), if_pos h]
  · rw [if_neg (by omega), if_pos (by omega), if_neg h]
theorem text_step (f : Nat → Nat) (w m : Nat) : textTo f w (4 * (m + 1)) = textTo f w (4 * m) ++ pixT f m ++ (if (m + 1) % w = 0 then [10] else [32, 124, 32]) := by
  rw [show 4 * (m + 1) = 4 * m + 3 + 1 by omega, textTo, sep_end, textTo, sep_in w m 2 (by omega), textTo, sep_in w m 1 (by omega), textTo]
  have h0 := sep_in w m 0 (by omega)
  rw [Nat.add_zero] at h0
  rw [h0]
  unfold pixT
  simp only [List.append_assoc]
theorem row_text (f : Nat → Nat) (n j : Nat) : ∀ q, q ≤ n → textTo f (n + 1) (4 * ((n + 1) * j + (n - q))) ++ rowT f ((n + 1) * j + (n - q)) q ++ [10] = textTo f (n + 1) (4 * ((n + 1) * (j + 1)))
  | 0, _ => by
    rw [rowT, Nat.sub_zero, show (n + 1) * (j + 1) = ((n + 1) * j + n) + 1 by rw [Nat.mul_succ]; omega, text_step, if_pos]
    rw [show (n + 1) * j + n + 1 = (n + 1) * (j + 1) by rw [Nat.mul_succ]; omega]
    exact Nat.mul_mod_right _ _
  | q + 1, hq => by
    have ih := row_text f n j q (by omega)
    rw [rowT, ← ih]
    have hm : (n + 1) * j + (n - q) = ((n + 1) * j + (n - (q + 1))) + 1 := by omega
    rw [hm, text_step, if_neg]
    · simp only [List.append_assoc]
    · rw [← hm, Nat.mul_add_mod, Nat.mod_eq_of_lt (by omega)]; omega
theorem rows_text (f : Nat → Nat) (n : Nat) : ∀ h j, textTo f (n + 1) (4 * ((n + 1) * j)) ++ rowsT f n ((n + 1) * j) h = textTo f (n + 1) (4 * ((n + 1) * (j + h)))
  | 0, j => by simp [rowsT]
  | h + 1, j => by
    have h1 := row_text f n j n (Nat.le_refl _)
    simp only [Nat.sub_self, Nat.add_zero] at h1
    have h2 := rows_text f n h (j + 1)
    rw [rowsT, ← List.append_assoc, ← List.append_assoc, h1, show (n + 1) * j + (n + 1) = (n + 1) * (j + 1) by rw [Nat.mul_succ], h2, show j + 1 + h = j + (h + 1) by omega]
theorem text_all (f : Nat → Nat) (n h : Nat) : textTo f (n + 1) (4 * ((n + 1) * h)) = rowsT f n 0 h := by
  have := rows_text f n h 0
  rw [Nat.mul_zero, Nat.zero_add] at this
  rw [← this]; rfl
end Go.Proofs.YtckadkobgmnoeaaDoor
