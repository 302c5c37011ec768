/- The kinds of singles: num.Kind; scope.Odd and dyeref1.Odd. -/
import Derived.Test.YtlfcedecobebmaaExC
namespace Go.Proofs.Ytlfcedecobebmaa
open Go.RowKit Ieee

/-- The kind of a single: nought, small, normal, infinite, no number. -/
def kindOf (b : Nat) : Nat := if b % 2147483648 = 0 then 0 else if b % 2147483648 < 8388608 then 1 else if b % 2147483648 < 2139095040 then 2 else if b % 2147483648 = 2139095040 then 3 else 4

theorem rd_parts {b : Nat} (hb : b < 4294967296) : rd b = if b % 2147483648 < 8388608 then .number (decide (2147483648 ≤ b)) (b % 2147483648) (-149) else if b % 2147483648 < 2139095040 then .number (decide (2147483648 ≤ b)) (8388608 + b % 2147483648 % 8388608) (-149 + (b % 2147483648 / 8388608 - 1 : Nat)) else if b % 2147483648 = 2139095040 then .infinity (decide (2147483648 ≤ b)) else .nan (decide (2147483648 ≤ b)) (b % 2147483648 - 2139095040) := by
  have hs : FloatKind.f32.format.signWeight = 2147483648 := by decide
  have h := read_word FloatKind.f32.format (decide (2147483648 ≤ b)) (b % 2147483648) (by rw [hs]; omega)
  have e : FloatKind.f32.format.word (decide (2147483648 ≤ b)) (b % 2147483648) = b := by
    unfold Format.word
    rw [hs]
    by_cases h1 : 2147483648 ≤ b
    · rw [if_pos (by simpa using h1)]; omega
    · rw [if_neg (by simpa using h1)]; omega
  rw [e, f32_binade, f32_inf, f32_least] at h
  exact h
theorem cmp_is (a b : Int) (o : Ordering) : (some (compare a b) == some o) = match o with | .lt => decide (a < b) | .eq => decide (a = b) | .gt => decide (b < a) := by
  have e : compare a b = compareOfLessAndEq a b := rfl
  rw [e]
  unfold compareOfLessAndEq
  rcases Int.lt_trichotomy a b with h1 | h1 | h1
  · rw [if_pos h1]
    cases o
    · simp only [decide_eq_true h1]; rfl
    · simp only [decide_eq_false (show ¬ a = b by omega)]; rfl
    · simp only [decide_eq_false (show ¬ b < a by omega)]; rfl
  · rw [if_neg (by omega), if_pos h1]
    cases o
    · simp only [decide_eq_false (show ¬ a < b by omega)]; rfl
    · simp only [decide_eq_true h1]; rfl
    · simp only [decide_eq_false (show ¬ b < a by omega)]; rfl
  · rw [if_neg (by omega), if_neg (by omega)]
    cases o
    · simp only [decide_eq_false (show ¬ a < b by omega)]; rfl
    · simp only [decide_eq_false (show ¬ a = b by omega)]; rfl
    · simp only [decide_eq_true h1]; rfl
theorem k_nan {b : Nat} (hb : b < 4294967296) : isNaN b = decide (2139095040 < b % 2147483648) := by
  rw [isNaN_iff, rd_parts hb]
  generalize decide (2147483648 ≤ b) = s
  generalize b % 2147483648 = r
  split
  · rw [decide_eq_false (by omega)]; rfl
  · split
    · rw [decide_eq_false (by omega)]; rfl
    · split
      · rw [decide_eq_false (by omega)]; rfl
      · rw [decide_eq_true (by omega)]; rfl
theorem k_num {b : Nat} (hb : b < 4294967296) : isNum b = decide (b % 2147483648 < 2139095040) := by
  unfold isNum
  rw [rd_parts hb]
  generalize decide (2147483648 ≤ b) = s
  generalize b % 2147483648 = r
  by_cases h1 : r < 8388608
  · rw [if_pos h1, decide_eq_true (by omega)]
  · rw [if_neg h1]
    by_cases h2 : r < 2139095040
    · rw [if_pos h2, decide_eq_true (by omega)]
    · rw [if_neg h2, decide_eq_false (by omega)]
      by_cases h3 : r = 2139095040
      · rw [if_pos h3]
      · rw [if_neg h3]
theorem k_inf {b : Nat} (hb : b < 4294967296) : (match rd b with | .infinity _ => true | _ => false) = decide (b % 2147483648 = 2139095040) := by
  rw [rd_parts hb]
  generalize decide (2147483648 ≤ b) = s
  generalize b % 2147483648 = r
  by_cases h1 : r < 8388608
  · rw [if_pos h1, decide_eq_false (by omega)]
  · rw [if_neg h1]
    by_cases h2 : r < 2139095040
    · rw [if_pos h2, decide_eq_false (by omega)]
    · rw [if_neg h2]
      by_cases h3 : r = 2139095040
      · rw [if_pos h3, decide_eq_true (by omega)]
      · rw [if_neg h3, decide_eq_false (by omega)]
theorem signed_not_zero (s : Bool) {m n : Nat} (hm : m ≠ 0) : ¬ signed s m n = 0 := by
  rw [signed_pow]
  have h := Int.mul_pos (show (0 : Int) < (m : Int) by omega) (pow_pos' n)
  cases s
  · simp only [Bool.false_eq_true, if_false]; omega
  · simp only [if_true]; rw [Int.neg_mul]; omega
theorem k_zero {b : Nat} (hb : b < 4294967296) : (FloatKind.f32.format.order b 0 == some .eq) = decide (b % 2147483648 = 0) := by
  show ((rd b).order (rd 0) == some .eq) = _
  rw [show rd 0 = .number false 0 (-149) by decide, rd_parts hb]
  have hz : ∀ s n, signed s 0 n = 0 := fun s n => by rw [signed_pow]; cases s <;> simp
  generalize decide (2147483648 ≤ b) = s
  generalize b % 2147483648 = r
  split
  · rename_i h1
    simp only [Datum.order]
    rw [cmp_is, hz]
    show decide _ = decide _
    rw [decide_eq_decide]
    constructor
    · intro h
      by_cases h0 : r = 0
      · exact h0
      · exact absurd h (signed_not_zero s h0)
    · intro h; rw [h]; exact hz _ _
  · split
    · rename_i h1 h2
      rw [decide_eq_false (show ¬ r = 0 by omega)]
      simp only [Datum.order]
      rw [cmp_is, hz]
      exact decide_eq_false (signed_not_zero s (by omega))
    · split
      · rw [decide_eq_false (show ¬ r = 0 by omega)]
        cases s <;> rfl
      · rw [decide_eq_false (show ¬ r = 0 by omega)]; rfl
theorem k_small {b : Nat} (h : b < 2139095040) : (FloatKind.f32.format.order b 8388608 == some .lt) = decide (b < 8388608) := by
  show ((rd b).order (rd 8388608) == some .lt) = _
  have hm : b % 2147483648 = b := by omega
  rw [show rd 8388608 = .number false 8388608 (-149) by decide, rd_parts (by omega), hm, decide_eq_false (show ¬ 2147483648 ≤ b by omega)]
  by_cases h1 : b < 8388608
  · rw [if_pos h1]
    simp only [Datum.order, Int.min_self, Int.sub_self, Int.toNat_zero]
    rw [cmp_is]
    show decide _ = decide _
    rw [decide_eq_decide, signed_pow, signed_pow]
    simp
    omega
  · rw [if_neg h1, if_pos h]
    simp only [Datum.order]
    rw [cmp_is]
    show decide _ = decide _
    rw [decide_eq_decide, signed_pow, signed_pow]
    have e1 : min (-149 + ((b / 8388608 - 1 : Nat) : Int)) (-149) = -149 := by omega
    rw [e1]
    simp only [Int.sub_self, Int.toNat_zero, Bool.false_eq_true, if_false, Int.pow_zero, Int.mul_one]
    have hp : (1 : Int) ≤ 2 ^ (-149 + ((b / 8388608 - 1 : Nat) : Int) - -149).toNat := pow_pos' _
    generalize (2 : Int) ^ (-149 + ((b / 8388608 - 1 : Nat) : Int) - -149).toNat = p at *
    have : ((8388608 + b % 8388608 : Nat) : Int) * 1 ≤ ((8388608 + b % 8388608 : Nat) : Int) * p := Int.mul_le_mul_of_nonneg_left hp (by omega)
    omega
theorem k_bits {b : Nat} (hb : b < 4294967296) : (bits .and .u32 (b : Int) 2139095040 == 0) = decide (b % 2147483648 / 8388608 = 0) := by
  have h := u32_and_nat b 2139095040 hb (by decide)
  replace h : bits .and .u32 (b : Int) 2139095040 = ((b &&& 2139095040 : Nat) : Int) := h
  rw [h]
  have e1 : (b &&& 2139095040) % 2 ^ 23 = 0 := by
    rw [Nat.and_mod_two_pow]
    show b % 2 ^ 23 &&& 0 = 0
    exact Nat.and_zero _
  have e2 : (b &&& 2139095040) / 2 ^ 23 = b % 2147483648 / 8388608 := by
    rw [Nat.and_div_two_pow]
    show b / 2 ^ 23 &&& 2 ^ 8 - 1 = _
    rw [Nat.and_two_pow_sub_one_eq_mod]
    omega
  have e3 := Nat.div_add_mod (b &&& 2139095040) (2 ^ 23)
  rw [e1, e2] at e3
  rw [← e3]
  generalize b % 2147483648 / 8388608 = q
  rw [Bool.eq_iff_iff, beq_iff_eq, decide_eq_true_eq]
  omega
end Go.Proofs.Ytlfcedecobebmaa
