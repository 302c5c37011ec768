/- A float that is its own whole part. -/
import Derived.Test.YtfkiljhjiogdlaaFlt4
namespace Go.Proofs.Ytfkiljhjiogdlaa
open Go.RowKit Ieee Ieee.Datum

theorem signed_shift (s : Bool) (m : Nat) {p b c : Int} (h1 : c ≤ b) (h2 : b ≤ p) : signed s m (p - c).toNat = signed s m (p - b).toNat * 2 ^ (b - c).toNat := by
  rw [signed_pow, signed_pow, show (p - c).toNat = (p - b).toNat + (b - c).toNat by omega, Int.pow_add, Int.mul_assoc]
theorem val_eq {b : Nat} {i : Int} (h1 : -8388608 < i) (h2 : i < 8388608) (h : (rd b).order (rd (floatOfInt .f32 i)) = some .eq) : Val b i := by
  obtain ⟨⟨s', m', p', hr', hv'⟩, _⟩ := ofInt_val h1 h2
  rw [hr'] at h
  cases hb : rd b with
  | nan s t => rw [hb] at h; cases h
  | infinity s => rw [hb] at h; cases s <;> cases h
  | number s m p =>
    rw [hb] at h
    simp only [Ieee.Datum.order, Option.some.injEq] at h
    have he := Int.compare_eq_eq.1 h
    obtain ⟨c, hc⟩ : ∃ c, c = min (min p p') 0 := ⟨_, rfl⟩
    refine val_of (base := c) hb (by omega) (by omega) ?_
    have hv := hv' c (by omega) (by omega)
    rw [signed_shift s m (b := min p p') (by omega) (by omega), he, ← signed_shift s' m' (b := min p p') (by omega) (by omega)]
    exact hv
theorem cut_zero (neg : Bool) (n drop : Nat) : Toward.zero.cut neg n drop = n / 2 ^ drop := by
  unfold Toward.cut
  simp only [Nat.shiftLeft_eq, Nat.one_mul, Bool.toNat_false, Nat.add_zero]
  by_cases h : drop ≤ n.log2 + 2
  · rw [Nat.min_eq_left h]
  · rw [Nat.min_eq_right (by omega)]
    have h1 : n < 2 ^ (n.log2 + 2) := Nat.lt_of_lt_of_le Nat.lt_log2_self (Nat.pow_le_pow_right (by omega) (by omega))
    have h2 : n < 2 ^ drop := Nat.lt_of_lt_of_le h1 (Nat.pow_le_pow_right (by omega) (by omega))
    rw [Nat.div_eq_of_lt h1, Nat.div_eq_of_lt h2]
theorem le_scale {m : Nat} {p : Int} (h : m * 2 ^ (p - min p (-7)).toNat ≤ 12800000 * 2 ^ (-7 - min p (-7)).toNat) : (m <<< p.toNat) / 2 ^ (-p).toNat ≤ 100000 := by
  rw [Nat.shiftLeft_eq]
  by_cases h0 : 0 ≤ p
  · rw [show (-p).toNat = 0 by omega, Nat.pow_zero, Nat.div_one]
    rw [show (-7 - min p (-7)).toNat = 0 by omega, show (p - min p (-7)).toNat = p.toNat + 7 by omega, Nat.pow_add, ← Nat.mul_assoc] at h
    omega
  · rw [show p.toNat = 0 by omega, Nat.pow_zero, Nat.mul_one]
    apply Nat.div_le_of_le_mul
    by_cases h7 : -7 ≤ p
    · rw [show (-7 - min p (-7)).toNat = 0 by omega, show (p - min p (-7)).toNat = 7 - (-p).toNat by omega] at h
      have e : 2 ^ (-p).toNat * 2 ^ (7 - (-p).toNat) = 128 := by rw [← Nat.pow_add, show (-p).toNat + (7 - (-p).toNat) = 7 by omega]
      have hp := Nat.two_pow_pos (7 - (-p).toNat)
      refine Nat.le_of_mul_le_mul_right (c := 2 ^ (7 - (-p).toNat)) ?_ hp
      rw [Nat.mul_right_comm, e]
      omega
    · rw [show (p - min p (-7)).toNat = 0 by omega, show (-7 - min p (-7)).toNat = (-p).toNat - 7 by omega, Nat.pow_zero, Nat.mul_one] at h
      have e : 2 ^ (-p).toNat = 2 ^ ((-p).toNat - 7) * 128 := by rw [show (128 : Nat) = 2 ^ 7 by rfl, ← Nat.pow_add, show (-p).toNat - 7 + 7 = (-p).toNat by omega]
      rw [e]
      omega
theorem rd_big : rd 1203982336 = .number false 12800000 (-7) := by decide
theorem rd_small : rd 3351465984 = .number true 12800000 (-7) := by decide
theorem int_of {b : Nat} (h1 : (rd b).order (rd 3351465984) = some .gt ∨ (rd b).order (rd 3351465984) = some .eq) (h2 : (rd b).order (rd 1203982336) = some .lt ∨ (rd b).order (rd 1203982336) = some .eq) :
    ∃ i, (rd b).toInt .zero = some i ∧ -100000 ≤ i ∧ i ≤ 100000 := by
  rw [rd_small] at h1
  rw [rd_big] at h2
  cases hb : rd b with
  | nan s t => rw [hb] at h1; rcases h1 with h | h <;> cases h
  | infinity s => rw [hb] at h1 h2; cases s <;> simp [Ieee.Datum.order] at h1 h2
  | number s m p =>
    rw [hb] at h1 h2
    simp only [Ieee.Datum.order, Option.some.injEq, Int.compare_eq_gt, Int.compare_eq_lt, Int.compare_eq_eq, signed_pow] at h1 h2
    have hle : m * 2 ^ (p - min p (-7)).toNat ≤ 12800000 * 2 ^ (-7 - min p (-7)).toNat := by
      cases s
      · simp only [Bool.false_eq_true, if_false] at h2
        have : (m : Int) * 2 ^ (p - min p (-7)).toNat ≤ (12800000 : Nat) * 2 ^ (-7 - min p (-7)).toNat := by rcases h2 with h | h; exact Int.le_of_lt h; exact Int.le_of_eq h
        exact_mod_cast this
      · simp only [if_true] at h1
        have : -(m : Int) * 2 ^ (p - min p (-7)).toNat ≥ -((12800000 : Nat) : Int) * 2 ^ (-7 - min p (-7)).toNat := by rcases h1 with h | h; exact Int.le_of_lt h; exact Int.le_of_eq h.symm
        rw [Int.neg_mul, Int.neg_mul] at this
        have this := Int.neg_le_neg_iff.1 this
        exact_mod_cast this
    have hc := le_scale hle
    refine ⟨_, rfl, ?_⟩
    rw [cut_zero, signed_pow]
    generalize (m <<< p.toNat) / 2 ^ (-p).toNat = z at hc
    cases s <;> simp <;> omega
theorem int_val {b : Nat} {i : Int} (h : (rd b).toInt .zero = some i) (h1 : -100000 ≤ i) (h2 : i ≤ 100000) : floatToIntVal .f32 b .i64 = some i := by
  unfold floatToIntVal
  rw [show FloatKind.f32.decode b = rd b from rfl, h]
  have a : IntKind.i64.min ≤ i := Int.le_trans (by decide) h1
  have b : i ≤ IntKind.i64.max := Int.le_trans h2 (by decide)
  simp only []
  rw [if_pos ⟨a, b⟩]
end Go.Proofs.Ytfkiljhjiogdlaa
