/- Rounded twice: a sum or a quotient of two singles that is rounded to a double and then to a single is the one rounded at once, where it is not too small or too great. No program in sight. -/
import Derived.Test.YteebkfdocdmboaaDoorFlt4
namespace Go.Proofs.YteebkfdocdmboaaDoor
open Go.RowKit Ieee

/-- The whole number nearest to X / B; between two, the even one. -/
def rhe (X B : Nat) : Nat := X / B + (decide (B < 2 * (X % B)) || (B == 2 * (X % B) && X / B % 2 == 1)).toNat

theorem rhe_lt {X B : Nat} (h : 2 * (X % B) < B) : rhe X B = X / B := by
  unfold rhe
  rw [decide_eq_false (by omega), show (B == 2 * (X % B)) = false by simp; omega]
  rfl
theorem rhe_gt {X B : Nat} (h : B < 2 * (X % B)) : rhe X B = X / B + 1 := by
  unfold rhe
  rw [decide_eq_true h]
  rfl
theorem rhe_eq {X B : Nat} (h : B = 2 * (X % B)) : rhe X B = X / B + X / B % 2 := by
  unfold rhe
  rw [decide_eq_false (by omega), show (B == 2 * (X % B)) = true by simpa using h]
  rcases (by omega : X / B % 2 = 0 ∨ X / B % 2 = 1) with e | e <;> rw [e] <;> rfl
theorem rhe_mul (X B c : Nat) (hc : 0 < c) : rhe (X * c) (B * c) = rhe X B := by
  unfold rhe
  rw [Nat.mul_div_mul_right _ _ hc, Nat.mul_mod_mul_right]
  congr 3
  · rw [decide_eq_decide, ← Nat.mul_assoc]
    exact Nat.mul_lt_mul_right hc
  · congr 1
    rw [Bool.eq_iff_iff, beq_iff_eq, beq_iff_eq, ← Nat.mul_assoc]
    exact Nat.mul_right_cancel_iff hc
/-- The two bounds tell the rounded number, where it is no tie. -/
theorem rhe_parts {q P r : Nat} (hr : r < P) : (q * P + r) / P = q ∧ (q * P + r) % P = r := by
  have hP : 0 < P := by omega
  constructor
  · rw [Nat.add_comm, Nat.add_mul_div_right _ _ hP, Nat.div_eq_of_lt hr]; omega
  · rw [Nat.add_comm, Nat.add_mul_mod_self_right, Nat.mod_eq_of_lt hr]
theorem cut_rhe (neg : Bool) (n d : Nat) : Toward.even.cut neg n d = rhe n (2 ^ d) := by
  by_cases h : d ≤ n.log2 + 2
  · rw [cut_even neg n d d (by omega)]; rfl
  · have h0 : n < 2 ^ (n.log2 + 1) := Nat.lt_log2_self
    have h1 : (2 : Nat) ^ (n.log2 + 2) = 2 * 2 ^ (n.log2 + 1) := by rw [show n.log2 + 2 = (n.log2 + 1) + 1 by omega, Nat.pow_succ]; omega
    have h2 : (2 : Nat) ^ (n.log2 + 2) ≤ 2 ^ d := Nat.pow_le_pow_right (by omega) (by omega)
    rw [cut_even neg n d (n.log2 + 2) (by omega)]
    have a : rhe n (2 ^ (n.log2 + 2)) = 0 := by
      rw [rhe_lt (by rw [Nat.mod_eq_of_lt (by omega)]; omega), Nat.div_eq_of_lt (by omega)]
    have b : rhe n (2 ^ d) = 0 := by
      rw [rhe_lt (by rw [Nat.mod_eq_of_lt (by omega)]; omega), Nat.div_eq_of_lt (by omega)]
    rw [b]
    exact a
/-- Rounded twice is rounded once, but for a tie that the first rounding made. -/
theorem rhe_twice {X P H : Nat} (hP : 0 < P) (hH : 0 < H) (h : X % P = 0 ∨ rhe X P % (2 * H) ≠ H) : rhe (rhe X P) (2 * H) = rhe X (P * (2 * H)) := by
  obtain ⟨a, ha⟩ : ∃ a, a = X / P := ⟨_, rfl⟩
  obtain ⟨r, hr⟩ : ∃ r, r = X % P := ⟨_, rfl⟩
  have hrP : r < P := by rw [hr]; exact Nat.mod_lt _ hP
  have hX : X = a * P + r := by rw [ha, hr, Nat.mul_comm]; exact (Nat.div_add_mod X P).symm
  by_cases h0 : r = 0
  · have e : rhe X P = a := by rw [rhe_lt (by rw [← hr]; omega), ha]
    rw [e, hX, h0, Nat.add_zero, Nat.mul_comm P, rhe_mul _ _ _ hP]
  have hn : rhe X P % (2 * H) ≠ H := by rcases h with h | h; · omega
                                        · exact h
  obtain ⟨q, hq⟩ : ∃ q, q = a / (2 * H) := ⟨_, rfl⟩
  obtain ⟨t, ht⟩ : ∃ t, t = a % (2 * H) := ⟨_, rfl⟩
  have htH : t < 2 * H := by rw [ht]; exact Nat.mod_lt _ (by omega)
  have hA : a = q * (2 * H) + t := by rw [hq, ht, Nat.mul_comm]; exact (Nat.div_add_mod a (2 * H)).symm
  have tP1 : ∀ k, t ≤ k → t * P ≤ k * P := fun k hk => Nat.mul_le_mul_right _ hk
  have tP2 : ∀ k, k ≤ t → k * P ≤ t * P := fun k hk => Nat.mul_le_mul_right _ hk
  have hbig : t * P + r < P * (2 * H) := by
    have := tP1 (2 * H - 1) (by omega)
    have e : (2 * H - 1) * P + P = P * (2 * H) := by rw [← Nat.succ_mul, show Nat.succ (2 * H - 1) = 2 * H by omega, Nat.mul_comm]
    omega
  have hXX : X = q * (P * (2 * H)) + (t * P + r) := by rw [hX, hA, Nat.add_mul, Nat.mul_assoc, Nat.mul_comm (2 * H) P, Nat.add_assoc]
  obtain ⟨d1, d2⟩ := rhe_parts (q := q) hbig
  rw [← hXX] at d1 d2
  have eH : P * (2 * H) = 2 * (H * P) := by rw [Nat.mul_left_comm, Nat.mul_comm P H]
  have low : t < H → rhe X (P * (2 * H)) = q := fun ht => by
    rw [rhe_lt, d1]
    have := tP1 (H - 1) (by omega)
    have e : (H - 1) * P + P = H * P := by rw [← Nat.succ_mul, show Nat.succ (H - 1) = H by omega]
    rw [d2, eH]; omega
  have high : H ≤ t → rhe X (P * (2 * H)) = q + 1 := fun ht => by
    rw [rhe_gt, d1]
    have := tP2 H ht
    rw [d2, eH]; omega
  have fin : ∀ N, rhe X P = N → (N = a ∨ N = a + 1 ∧ P ≤ 2 * r) → rhe N (2 * H) = rhe X (P * (2 * H)) := by
    intro N hN hc
    rw [hN] at hn
    rcases hc with rfl | ⟨rfl, hc⟩
    · rw [← ht] at hn
      rcases Nat.lt_or_ge t H with h1 | h1
      · rw [low h1, rhe_lt (by rw [← ht]; omega), ← hq]
      · rw [high h1, rhe_gt (by rw [← ht]; omega), ← hq]
    · by_cases hl : t + 1 < 2 * H
      · obtain ⟨e1, e2⟩ := rhe_parts (q := q) (P := 2 * H) hl
        rw [← Nat.add_assoc, ← hA] at e1 e2
        rw [e2] at hn
        rcases Nat.lt_or_ge (t + 1) H with h1 | h1
        · rw [low (by omega), rhe_lt (by rw [e2]; omega), e1]
        · rw [high (by omega), rhe_gt (by rw [e2]; omega), e1]
      · have e : a + 1 = (q + 1) * (2 * H) + 0 := by rw [hA, Nat.add_mul]; omega
        obtain ⟨e1, e2⟩ := rhe_parts (q := q + 1) (P := 2 * H) (r := 0) (by omega)
        rw [e, rhe_lt (by rw [e2]; omega), e1, high (by omega)]
  refine fin _ rfl ?_
  rcases Nat.lt_trichotomy (2 * r) P with h1 | h1 | h1
  · left; rw [rhe_lt (by rw [← hr]; omega), ha]
  · rw [rhe_eq (by rw [← hr]; omega), ← ha]; omega
  · right; rw [rhe_gt (by rw [← hr]; omega), ha]; omega
/-- How far the rounded number may lie. -/
theorem rhe_near {X P : Nat} (hP : 0 < P) : 2 * X ≤ 2 * (rhe X P * P) + P ∧ 2 * (rhe X P * P) ≤ 2 * X + P := by
  have hX : X / P * P + X % P = X := by rw [Nat.mul_comm]; exact Nat.div_add_mod X P
  have hr := Nat.mod_lt X hP
  rcases Nat.lt_trichotomy (2 * (X % P)) P with h1 | h1 | h1
  · rw [rhe_lt h1]; omega
  · rw [rhe_eq h1.symm]
    rcases (by omega : X / P % 2 = 0 ∨ X / P % 2 = 1) with e | e <;> rw [e]
    · rw [Nat.add_zero]; omega
    · rw [Nat.add_mul]; omega
  · rw [rhe_gt h1, Nat.add_mul]; omega
end Go.Proofs.YteebkfdocdmboaaDoor
