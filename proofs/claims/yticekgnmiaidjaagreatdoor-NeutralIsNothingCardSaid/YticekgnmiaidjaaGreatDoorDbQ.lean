/- A single divided by a small whole number, by way of doubles: at every single, also the smallest and the greatest. No program in sight. -/
import Derived.Test.YticekgnmiaidjaaGreatDoorFlt4
namespace Go.Proofs.YticekgnmiaidjaaGreatDoor

section
open Go.RowKit Ieee

/-- The whole number nearest to X / B; between two, the even one. -/
def rhe (X B : Nat) : Nat := X / B + (decide (B < 2 * (X % B)) || (B == 2 * (X % B) && X / B % 2 == 1)).toNat

theorem rhe_lt {X B : Nat} (h : 2 * (X % B) < B) : rhe X B = X / B := by
  unfold rhe
  rw [decide_eq_false (by omega), show (B == 2 * (X % B)) = false by simp; omega]
  rfl
theorem rhe_gt {X B : Nat} (h : B < 2 * (X % B)) : rhe X B = X / B + 1 := by
  unfold rhe
  rw [decide_eq_true h]
  rfl
theorem rhe_eq {X B : Nat} (h : B = 2 * (X % B)) : rhe X B = X / B + X / B % 2 := by
  unfold rhe
  rw [decide_eq_false (by omega), show (B == 2 * (X % B)) = true by simpa using h]
  rcases (by omega : X / B % 2 = 0 ∨ X / B % 2 = 1) with e | e <;> rw [e] <;> rfl
theorem rhe_mul (X B c : Nat) (hc : 0 < c) : rhe (X * c) (B * c) = rhe X B := by
  unfold rhe
  rw [Nat.mul_div_mul_right _ _ hc, Nat.mul_mod_mul_right]
  congr 3
  · rw [decide_eq_decide, ← Nat.mul_assoc]
    exact Nat.mul_lt_mul_right hc
  · congr 1
    rw [Bool.eq_iff_iff, beq_iff_eq, beq_iff_eq, ← Nat.mul_assoc]
    exact Nat.mul_right_cancel_iff hc
/-- The two bounds tell the rounded number, where it is no tie. -/
theorem rhe_parts {q P r : Nat} (hr : r < P) : (q * P + r) / P = q ∧ (q * P + r) % P = r := by
  have hP : 0 < P := by omega
  constructor
  · rw [Nat.add_comm, Nat.add_mul_div_right _ _ hP, Nat.div_eq_of_lt hr]; omega
  · rw [Nat.add_comm, Nat.add_mul_mod_self_right, Nat.mod_eq_of_lt hr]
theorem cut_rhe (neg : Bool) (n d : Nat) : Toward.even.cut neg n d = rhe n (2 ^ d) := by
  by_cases h : d ≤ n.log2 + 2
  · rw [cut_even neg n d d (by omega)]; rfl
  · have h0 : n < 2 ^ (n.log2 + 1) := Nat.lt_log2_self
    have h1 : (2 : Nat) ^ (n.log2 + 2) = 2 * 2 ^ (n.log2 + 1) := by rw [show n.log2 + 2 = (n.log2 + 1) + 1 by omega, Nat.pow_succ]; omega
    have h2 : (2 : Nat) ^ (n.log2 + 2) ≤ 2 ^ d := Nat.pow_le_pow_right (by omega) (by omega)
    rw [cut_even neg n d (n.log2 + 2) (by omega)]
    have a : rhe n (2 ^ (n.log2 + 2)) = 0 := by
      rw [rhe_lt (by rw [Nat.mod_eq_of_lt (by omega)]; omega), Nat.div_eq_of_lt (by omega)]
    have b : rhe n (2 ^ d) = 0 := by
      rw [rhe_lt (by rw [Nat.mod_eq_of_lt (by omega)]; omega), Nat.div_eq_of_lt (by omega)]
    rw [b]
    exact a
/-- Rounded twice is rounded once, but for a tie that the first rounding made. -/
theorem rhe_twice {X P H : Nat} (hP : 0 < P) (hH : 0 < H) (h : X % P = 0 ∨ rhe X P % (2 * H) ≠ H) : rhe (rhe X P) (2 * H) = rhe X (P * (2 * H)) := by
  obtain ⟨a, ha⟩ : ∃ a, a = X / P := ⟨_, rfl⟩
  obtain ⟨r, hr⟩ : ∃ r, r = X % P := ⟨_, rfl⟩
  have hrP : r < P := by rw [hr]; exact Nat.mod_lt _ hP
  have hX : X = a * P + r := by rw [ha, hr, Nat.mul_comm]; exact (Nat.div_add_mod X P).symm
  by_cases h0 : r = 0
  · have e : rhe X P = a := by rw [rhe_lt (by rw [← hr]; omega), ha]
    rw [e, hX, h0, Nat.add_zero, Nat.mul_comm P, rhe_mul _ _ _ hP]
  have hn : rhe X P % (2 * H) ≠ H := by rcases h with h | h; · omega
                                        · exact h
  obtain ⟨q, hq⟩ : ∃ q, q = a / (2 * H) := ⟨_, rfl⟩
  obtain ⟨t, ht⟩ : ∃ t, t = a % (2 * H) := ⟨_, rfl⟩
  have htH : t < 2 * H := by rw [ht]; exact Nat.mod_lt _ (by omega)
  have hA : a = q * (2 * H) + t := by rw [hq, ht, Nat.mul_comm]; exact (Nat.div_add_mod a (2 * H)).symm
  have tP1 : ∀ k, t ≤ k → t * P ≤ k * P := fun k hk => Nat.mul_le_mul_right _ hk
  have tP2 : ∀ k, k ≤ t → k * P ≤ t * P := fun k hk => Nat.mul_le_mul_right _ hk
  have hbig : t * P + r < P * (2 * H) := by
    have := tP1 (2 * H - 1) (by omega)
    have e : (2 * H - 1) * P + P = P * (2 * H) := by rw [← Nat.succ_mul, show Nat.succ (2 * H - 1) = 2 * H by omega, Nat.mul_comm]
    omega
  have hXX : X = q * (P * (2 * H)) + (t * P + r) := by rw [hX, hA, Nat.add_mul, Nat.mul_assoc, Nat.mul_comm (2 * H) P, Nat.add_assoc]
  obtain ⟨d1, d2⟩ := rhe_parts (q := q) hbig
  rw [← hXX] at d1 d2
  have eH : P * (2 * H) = 2 * (H * P) := by rw [Nat.mul_left_comm, Nat.mul_comm P H]
  have low : t < H → rhe X (P * (2 * H)) = q := fun ht => by
    rw [rhe_lt, d1]
    have := tP1 (H - 1) (by omega)
    have e : (H - 1) * P + P = H * P := by rw [← Nat.succ_mul, show Nat.succ (H - 1) = H by omega]
    rw [d2, eH]; omega
  have high : H ≤ t → rhe X (P * (2 * H)) = q + 1 := fun ht => by
    rw [rhe_gt, d1]
    have := tP2 H ht
    rw [d2, eH]; omega
  have fin : ∀ N, rhe X P = N → (N = a ∨ N = a + 1 ∧ P ≤ 2 * r) → rhe N (2 * H) = rhe X (P * (2 * H)) := by
    intro N hN hc
    rw [hN] at hn
    rcases hc with rfl | ⟨rfl, hc⟩
    · rw [← ht] at hn
      rcases Nat.lt_or_ge t H with h1 | h1
      · rw [low h1, rhe_lt (by rw [← ht]; omega), ← hq]
      · rw [high h1, rhe_gt (by rw [← ht]; omega), ← hq]
    · by_cases hl : t + 1 < 2 * H
      · obtain ⟨e1, e2⟩ := rhe_parts (q := q) (P := 2 * H) hl
        rw [← Nat.add_assoc, ← hA] at e1 e2
        rw [e2] at hn
        rcases Nat.lt_or_ge (t + 1) H with h1 | h1
        · rw [low (by omega), rhe_lt (by rw [e2]; omega), e1]
        · rw [high (by omega), rhe_gt (by rw [e2]; omega), e1]
      · have e : a + 1 = (q + 1) * (2 * H) + 0 := by rw [hA, Nat.add_mul]; omega
        obtain ⟨e1, e2⟩ := rhe_parts (q := q + 1) (P := 2 * H) (r := 0) (by omega)
        rw [e, rhe_lt (by rw [e2]; omega), e1, high (by omega)]
  refine fin _ rfl ?_
  rcases Nat.lt_trichotomy (2 * r) P with h1 | h1 | h1
  · left; rw [rhe_lt (by rw [← hr]; omega), ha]
  · rw [rhe_eq (by rw [← hr]; omega), ← ha]; omega
  · right; rw [rhe_gt (by rw [← hr]; omega), ha]; omega
/-- How far the rounded number may lie. -/
theorem rhe_near {X P : Nat} (hP : 0 < P) : 2 * X ≤ 2 * (rhe X P * P) + P ∧ 2 * (rhe X P * P) ≤ 2 * X + P := by
  have hX : X / P * P + X % P = X := by rw [Nat.mul_comm]; exact Nat.div_add_mod X P
  have hr := Nat.mod_lt X hP
  rcases Nat.lt_trichotomy (2 * (X % P)) P with h1 | h1 | h1
  · rw [rhe_lt h1]; omega
  · rw [rhe_eq h1.symm]
    rcases (by omega : X / P % 2 = 0 ∨ X / P % 2 = 1) with e | e <;> rw [e]
    · rw [Nat.add_zero]; omega
    · rw [Nat.add_mul]; omega
  · rw [rhe_gt h1, Nat.add_mul]; omega
end

section
open Go.RowKit Ieee

theorem rhe_sticky {X b d : Nat} (hb : 0 < b) : rhe (2 * (X / b) + (X % b != 0).toNat) (2 ^ (d + 2)) = rhe X (b * 2 ^ (d + 1)) := by
  obtain ⟨h, hh⟩ : ∃ h, h = 2 ^ d := ⟨_, rfl⟩
  have hh0 : 0 < h := by rw [hh]; exact Nat.two_pow_pos d
  have e1 : (2 : Nat) ^ (d + 1) = 2 * h := by rw [Nat.pow_succ, hh, Nat.mul_comm]
  have e2 : (2 : Nat) ^ (d + 2) = 2 * (2 * h) := by rw [show d + 2 = (d + 1) + 1 by omega, Nat.pow_succ, e1, Nat.mul_comm]
  rw [e1, e2]
  obtain ⟨Q, hQ⟩ : ∃ Q, Q = X / b := ⟨_, rfl⟩
  obtain ⟨r, hr⟩ : ∃ r, r = X % b := ⟨_, rfl⟩
  have hX : X = Q * b + r := by rw [hQ, hr, Nat.mul_comm]; exact (Nat.div_add_mod X b).symm
  have hrb : r < b := by rw [hr]; exact Nat.mod_lt _ hb
  rw [← hQ, ← hr]
  obtain ⟨c, hc⟩ : ∃ c, c = (r != 0).toNat := ⟨_, rfl⟩
  have hcc : (c = 0 ∧ r = 0) ∨ (c = 1 ∧ 0 < r) := by
    rw [hc]
    by_cases h0 : r = 0
    · left; subst h0; exact ⟨rfl, rfl⟩
    · right; rw [show (r != 0) = true by simpa using h0]; exact ⟨rfl, by omega⟩
  rw [← hc]
  clear hc hQ hr
  obtain ⟨q, hq⟩ : ∃ q, q = Q / (2 * h) := ⟨_, rfl⟩
  obtain ⟨t, ht⟩ : ∃ t, t = Q % (2 * h) := ⟨_, rfl⟩
  have htH : t < 2 * h := by rw [ht]; exact Nat.mod_lt _ (by omega)
  have hA : Q = q * (2 * h) + t := by rw [hq, ht, Nat.mul_comm]; exact (Nat.div_add_mod Q (2 * h)).symm
  have hn : 2 * Q + c = q * (2 * (2 * h)) + (2 * t + c) := by rw [hA, Nat.mul_left_comm q 2 (2 * h)]; omega
  have hb1 : t * b + r < b * (2 * h) := by
    have : (t + 1) * b ≤ 2 * h * b := Nat.mul_le_mul_right _ (by omega)
    rw [Nat.add_mul, Nat.mul_comm (2 * h)] at this
    omega
  have hXX : X = q * (b * (2 * h)) + (t * b + r) := by rw [hX, hA, Nat.add_mul, Nat.mul_assoc, Nat.mul_comm (2 * h) b, Nat.add_assoc]
  obtain ⟨d1, d2⟩ := rhe_parts (q := q) hb1
  obtain ⟨d3, d4⟩ := rhe_parts (q := q) (P := 2 * (2 * h)) (r := 2 * t + c) (by omega)
  rw [← hXX] at d1 d2
  rw [← hn] at d3 d4
  have eb : b * (2 * h) = 2 * (h * b) := by rw [Nat.mul_left_comm, Nat.mul_comm b h]
  rcases Nat.lt_trichotomy t h with h1 | h1 | h1
  · have : (t + 1) * b ≤ h * b := Nat.mul_le_mul_right _ (by omega)
    rw [Nat.add_mul] at this
    rw [rhe_lt (by rw [d4]; omega), rhe_lt (by rw [d2, eb]; omega), d1, d3]
  · rcases hcc with ⟨rfl, rfl⟩ | ⟨rfl, h0⟩
    · rw [rhe_eq (by rw [d4]; omega), rhe_eq (by rw [d2, eb, h1]; omega), d1, d3]
    · rw [rhe_gt (by rw [d4]; omega), rhe_gt (by rw [d2, eb, h1]; omega), d1, d3]
  · have : (h + 1) * b ≤ t * b := Nat.mul_le_mul_right _ (by omega)
    rw [Nat.add_mul] at this
    rw [rhe_gt (by rw [d4]; omega), rhe_gt (by rw [d2, eb]; omega), d1, d3]

/-- A sum of two numbers of 24 digits is no tie behind 53 digits. -/
theorem sum_tie {n A b D : Nat} (hn : n = A * 2 ^ D + b ∨ n + b = A * 2 ^ D) (hA : A < 16777216) (hb : b < 16777216) (hL : 53 ≤ n.log2) :
    n % 2 ^ (n.log2 - 52) = 0 ∨ rhe n (2 ^ (n.log2 - 52)) % (2 * 268435456) ≠ 268435456 := by
  right
  intro hN
  have hn0 : n ≠ 0 := by rintro rfl; simp at hL
  obtain ⟨L, hLe⟩ : ∃ L, L = n.log2 := ⟨_, rfl⟩
  rw [← hLe] at hN hL
  have hlow : 2 ^ L ≤ n := by rw [hLe]; exact Nat.log2_self_le hn0
  obtain ⟨P, hP⟩ : ∃ P, P = 2 ^ (L - 52) := ⟨_, rfl⟩
  rw [← hP] at hN
  have hP2 : 2 ≤ P := by rw [hP]; exact Nat.le_trans (by decide : 2 ≤ 2 ^ 1) (Nat.pow_le_pow_right (by omega) (by omega))
  have hLP : 2 ^ L = 4503599627370496 * P := by rw [hP, show (4503599627370496 : Nat) = 2 ^ 52 by rfl, ← Nat.pow_add, show 52 + (L - 52) = L by omega]
  obtain ⟨near1, near2⟩ := rhe_near (X := n) (P := P) (by omega)
  have hbig : 4503599627370496 ≤ rhe n P := by
    have : 4503599627370496 ≤ n / P := by rw [Nat.le_div_iff_mul_le (by omega)]; omega
    exact Nat.le_trans this (by unfold rhe; omega)
  generalize rhe n P = N at hN near1 near2 hbig
  obtain ⟨q, hq⟩ : ∃ q, N = q * 536870912 + 268435456 := ⟨N / 536870912, by omega⟩
  have hq2 : 8388608 ≤ q := by omega
  have eNP : N * P = 536870912 * (q * P) + 268435456 * P := by rw [hq, Nat.add_mul, Nat.mul_comm q, Nat.mul_assoc]
  rw [eNP] at near1 near2
  have hD : 29 ≤ D := by
    rcases Nat.lt_or_ge D 29 with h | h
    · exfalso
      have h1 : A * 2 ^ D ≤ 16777215 * 2 ^ 28 := Nat.mul_le_mul (by omega) (Nat.pow_le_pow_right (by omega) (by omega))
      have h2 : (2 : Nat) ^ 53 ≤ 2 ^ L := Nat.pow_le_pow_right (by omega) hL
      have e3 : (2 : Nat) ^ 53 = 9007199254740992 := by rfl
      have e4 : 16777215 * (2 : Nat) ^ 28 = 4503599358935040 := by rfl
      omega
    · exact h
  have hqP : 8388608 * P ≤ q * P := Nat.mul_le_mul_right _ hq2
  rcases Nat.lt_or_ge (L - 24) D with h | h
  · -- an even number of steps
    obtain ⟨v, hv⟩ : ∃ v, v = A * 2 ^ (D - (L - 23)) := ⟨_, rfl⟩
    have e : A * 2 ^ D = 536870912 * (v * P) := by
      rw [hv, hP, Nat.mul_assoc, ← Nat.pow_add, show (536870912 : Nat) = 2 ^ 29 by rfl, Nat.mul_left_comm, ← Nat.pow_add]
      congr 2; omega
    rw [e] at hn
    rcases Nat.lt_or_ge q v with h1 | h1
    · have : (q + 1) * P ≤ v * P := Nat.mul_le_mul_right _ h1
      rw [Nat.add_mul] at this
      omega
    · have : v * P ≤ q * P := Nat.mul_le_mul_right _ h1
      omega
  · have h1 : A * 2 ^ D ≤ 16777215 * 2 ^ (L - 24) := Nat.mul_le_mul (by omega) (Nat.pow_le_pow_right (by omega) h)
    have e2 : 2 ^ (L - 24) = 268435456 * P := by rw [hP, show (268435456 : Nat) = 2 ^ 28 by rfl, ← Nat.pow_add, show 28 + (L - 52) = L - 24 by omega]
    rw [e2] at h1
    omega
/-- A quotient of two numbers of 24 digits is no tie behind 53 digits. -/
theorem quo_tie {a b t B : Nat} (ha : a < 16777216) (hb0 : 0 < b) (hb : b < 16777216) {e : Nat} (hB : B = b * 2 ^ e) (hbig : 4503599627370496 ≤ rhe (a * 2 ^ t) B) :
    a * 2 ^ t % B = 0 ∨ rhe (a * 2 ^ t) B % (2 * 268435456) ≠ 268435456 := by
  rcases Nat.eq_zero_or_pos (a * 2 ^ t % B) with h0 | h0
  · exact .inl h0
  right
  intro hN
  have hB0 : 0 < B := by rw [hB]; exact Nat.mul_pos hb0 (Nat.two_pow_pos e)
  obtain ⟨near1, near2⟩ := rhe_near (X := a * 2 ^ t) (P := B) hB0
  have hex : rhe (a * 2 ^ t) B * B ≠ a * 2 ^ t := by
    intro h
    rw [← h, Nat.mul_mod_left] at h0
    omega
  generalize rhe (a * 2 ^ t) B = N at hN near1 near2 hbig hex
  obtain ⟨u, hu⟩ : ∃ u, N = 268435456 * u := ⟨N / 268435456, by omega⟩
  have hNB : 4503599627370496 * B ≤ N * B := Nat.mul_le_mul_right _ hbig
  have hp : 0 < 2 ^ e := Nat.two_pow_pos e
  have heB : 2 ^ e ≤ B := by rw [hB]; exact Nat.le_mul_of_pos_left _ hb0
  rcases Nat.lt_or_ge t (e + 28) with h | h
  · have h1 : a * 2 ^ t ≤ 16777215 * (2 ^ e * 134217728) := Nat.mul_le_mul (by omega) (by rw [show (134217728 : Nat) = 2 ^ 27 by rfl, ← Nat.pow_add]; exact Nat.pow_le_pow_right (by omega) (by omega))
    generalize 2 ^ e = p at *
    generalize a * 2 ^ t = X at *
    generalize N * B = Y at *
    omega
  · obtain ⟨v, hv⟩ : ∃ v, v = a * 2 ^ (t - (e + 28)) := ⟨_, rfl⟩
    have e1 : a * 2 ^ t = 268435456 * (v * 2 ^ e) := by
      rw [hv, Nat.mul_assoc, ← Nat.pow_add, show (268435456 : Nat) = 2 ^ 28 by rfl, Nat.mul_left_comm, ← Nat.pow_add]
      congr 2; omega
    have e2 : N * B = 268435456 * (u * b * 2 ^ e) := by rw [hu, hB, Nat.mul_assoc, Nat.mul_assoc u]
    rw [e1, e2] at near1 near2 hex
    have hB2 : B < 16777216 * 2 ^ e := by rw [hB]; exact Nat.mul_lt_mul_of_pos_right hb hp
    rcases Nat.lt_trichotomy v (u * b) with h1 | h1 | h1
    · have : (v + 1) * 2 ^ e ≤ u * b * 2 ^ e := Nat.mul_le_mul_right _ h1
      rw [Nat.add_mul] at this
      generalize 2 ^ e = p at *
      generalize v * p = X at *
      generalize u * b * p = Y at *
      omega
    · exact hex (by rw [h1])
    · have : (u * b + 1) * 2 ^ e ≤ v * 2 ^ e := Nat.mul_le_mul_right _ h1
      rw [Nat.add_mul] at this
      generalize 2 ^ e = p at *
      generalize v * p = X at *
      generalize u * b * p = Y at *
      omega

theorem nearest_rhe (f : Format) (s : Bool) {m : Nat} (p last : Int) (hm : m ≠ 0) (hlast : last = max (p + m.log2 - f.fractionBits) f.leastPlace) (hp : p ≤ last) :
    f.nearest s m p = f.word s (min ((last - f.leastPlace).toNat * f.binade + rhe m (2 ^ (last - p).toNat)) f.infRung) := by
  unfold Format.nearest
  rw [if_neg hm]
  simp only [← hlast]
  rw [show (p - last).toNat = 0 by omega, Nat.shiftLeft_zero, cut_rhe]
theorem nearest_up (f : Format) (s : Bool) {m : Nat} (p last : Int) (hm : m ≠ 0) (hlast : last = max (p + m.log2 - f.fractionBits) f.leastPlace) (hp : last ≤ p) :
    f.nearest s m p = f.word s (min ((last - f.leastPlace).toNat * f.binade + m * 2 ^ (p - last).toNat) f.infRung) := by
  unfold Format.nearest
  rw [if_neg hm]
  simp only [← hlast]
  rw [show (last - p).toNat = 0 by omega, cut_none, Nat.shiftLeft_eq]
theorem log2_is {n k : Nat} (h1 : 2 ^ k ≤ n) (h2 : n < 2 ^ (k + 1)) : n.log2 = k := by
  have h0 : n ≠ 0 := by have := Nat.two_pow_pos k; omega
  have a := (Nat.le_log2 h0).2 h1
  have b := (Nat.log2_lt h0).2 h2
  omega
theorem f32_least : FloatKind.f32.format.leastPlace = -149 := by decide
theorem f32_frac : FloatKind.f32.format.fractionBits = 23 := rfl
theorem rhe_le {X B k : Nat} (hB : 0 < B) (h : X ≤ k * B) : rhe X B ≤ k := by
  rcases Nat.lt_or_ge (X / B) k with h1 | h1
  · have hb : ∀ c : Bool, c.toNat ≤ 1 := by decide
    have := hb (decide (B < 2 * (X % B)) || (B == 2 * (X % B) && X / B % 2 == 1))
    unfold rhe; omega
  · have h2 : X / B ≤ k := by rw [Nat.div_le_iff_le_mul hB]; omega
    have h3 : X / B = k := by omega
    have h4 := Nat.div_add_mod X B
    rw [h3, Nat.mul_comm] at h4
    rw [rhe_lt (by omega)]; omega
theorem rhe_ge {X B k : Nat} (hB : 0 < B) (h : k * B ≤ X) : k ≤ rhe X B := by
  have : k ≤ X / B := by rw [Nat.le_div_iff_mul_le hB]; exact h
  exact Nat.le_trans this (by unfold rhe; omega)
/-- What a double reads as that was made of a longer number. -/
theorem dbl_read (s : Bool) {m : Nat} {p : Int} (hL : 53 ≤ m.log2) (h1 : -1000 ≤ p + m.log2) (h2 : p + m.log2 ≤ 1000) :
    ∃ k l, FloatKind.f64.format.read (FloatKind.f64.format.nearest s m p) = .number s k l ∧ l + k.log2 ≤ p + m.log2 + 1 ∧ ∀ g : Format, g.nearest s k l = g.nearest s (rhe m (2 ^ (m.log2 - 52))) (p + m.log2 - 52) := by
  have hm : m ≠ 0 := by rintro rfl; simp at hL
  obtain ⟨L, hLe⟩ : ∃ L, L = m.log2 := ⟨_, rfl⟩
  have e := nearest_rhe FloatKind.f64.format s p (p + L - 52) hm (by rw [f64_least, f64_frac, ← hLe]; omega) (by omega)
  have hlow : 2 ^ L ≤ m := by rw [hLe]; exact Nat.log2_self_le hm
  have hup : m < 2 ^ (L + 1) := by rw [hLe]; exact Nat.lt_log2_self
  rw [← hLe] at hL h1 h2 ⊢
  rw [show (p + L - 52 - p).toNat = L - 52 by omega] at e
  have hP : 0 < 2 ^ (L - 52) := Nat.two_pow_pos _
  have hN1 : 2 ^ 52 ≤ rhe m (2 ^ (L - 52)) := rhe_ge hP (by rw [← Nat.pow_add, show 52 + (L - 52) = L by omega]; exact hlow)
  have hN2 : rhe m (2 ^ (L - 52)) ≤ 2 ^ 53 := rhe_le hP (by rw [← Nat.pow_add, show 53 + (L - 52) = L + 1 by omega]; omega)
  generalize rhe m (2 ^ (L - 52)) = N at *
  rw [f64_least, f64_binade, f64_inf] at e
  have c52 : (2 : Nat) ^ 52 = 4503599627370496 := rfl
  have c53 : (2 : Nat) ^ 53 = 9007199254740992 := rfl
  rcases Nat.lt_or_ge N (2 ^ 53) with hN | hN
  · have hl := log2_is hN1 hN
    have e2 := nearest_up FloatKind.f64.format s (m := N) (p + L - 52) (p + L - 52) (by omega) (by rw [f64_least, f64_frac, hl]; omega) (by omega)
    rw [show (p + L - 52 - (p + L - 52)).toNat = 0 by omega, Nat.pow_zero, Nat.mul_one, f64_least, f64_binade, f64_inf] at e2
    have e3 := nearest_exact FloatKind.f64.format s N (p + L - 52) (p + L - 52) (by omega) (by rw [f64_least, f64_frac, hl]; omega) (by omega) (by rw [f64_least, f64_binade, f64_inf, show (p + L - 52 - (p + L - 52)).toNat = 0 by omega, Nat.pow_zero, Nat.mul_one]; omega)
    rw [show (p + L - 52 - (p + L - 52)).toNat = 0 by omega, Nat.pow_zero, Nat.mul_one] at e3
    refine ⟨N, p + L - 52, by rw [e, ← e2]; exact e3, by rw [hl]; omega, fun g => rfl⟩
  · have hNe : N = 2 ^ 53 := by omega
    have e2 := nearest_up FloatKind.f64.format s (m := 1) (p + L + 1) (p + L - 51) (by omega) (by rw [f64_least, f64_frac, show Nat.log2 1 = 0 by decide]; omega) (by omega)
    rw [show (p + L + 1 - (p + L - 51)).toNat = 52 by omega, f64_least, f64_binade, f64_inf] at e2
    have e3 := nearest_exact FloatKind.f64.format s 1 (p + L + 1) (p + L - 51) (by omega) (by rw [f64_least, f64_frac, show Nat.log2 1 = 0 by decide]; omega) (by omega) (by rw [f64_least, f64_binade, f64_inf, show (p + L + 1 - (p + L - 51)).toNat = 52 by omega]; omega)
    rw [show (p + L + 1 - (p + L - 51)).toNat = 52 by omega] at e3
    have ew : (p + L - 52 - -1074).toNat * 4503599627370496 + N = (p + L - 51 - -1074).toNat * 4503599627370496 + 1 * 2 ^ 52 := by
      rw [hNe, show (p + L - 51 - -1074).toNat = (p + L - 52 - -1074).toNat + 1 by omega]; omega
    refine ⟨1 * 2 ^ 52, p + L - 51, by rw [e, ew, ← e2]; exact e3, by rw [Nat.one_mul, show Nat.log2 (2 ^ 52) = 52 by decide]; omega, fun g => ?_⟩
    have a1 := nearest_scale g s 1 52 (p + L + 1)
    have a2 := nearest_scale g s 1 53 (p + L + 1)
    rw [Nat.one_mul] at a2
    rw [show p + (L : Int) + 1 - ((52 : Nat) : Int) = p + L - 51 by omega] at a1
    rw [show p + (L : Int) + 1 - ((53 : Nat) : Int) = p + L - 52 by omega] at a2
    rw [a1, hNe, a2]
theorem narrow_eq {x : Nat} {s : Bool} {k : Nat} {l : Int} (h : FloatKind.f64.format.read x = .number s k l) (hb : k = 0 ∨ l + k.log2 ≤ 126) : floatToFloatBits .f64 x .f32 = some (FloatKind.f32.format.nearest s k l) := by
  obtain ⟨k', l', hr⟩ := finite_write s k l hb
  unfold floatToFloatBits
  have h' : FloatKind.f64.decode x = .number s k l := h
  rw [if_neg (by decide), h']
  have hr2 : FloatKind.f32.decode (FloatKind.f32.encode (.number s k l)) = .number s k' l' := hr
  simp only [hr2]
  rfl
/-- Rounded twice is rounded once: a number of at most 53 digits. -/
theorem dbl_exact (s : Bool) {m : Nat} {p : Int} (hL : m.log2 ≤ 52) (h1 : -1074 ≤ p) (h2 : m = 0 ∨ p + m.log2 ≤ 126) : floatToFloatBits .f64 (FloatKind.f64.format.nearest s m p) .f32 = some (FloatKind.f32.format.nearest s m p) := by
  by_cases hm : m = 0
  · subst hm
    rw [narrow_eq (nearest_zero _ _ _) (.inl rfl)]
    unfold Format.nearest
    rw [if_pos rfl, if_pos rfl]
  · have h2 : p + m.log2 ≤ 126 := h2.resolve_left hm
    obtain ⟨last, hlast⟩ : ∃ last, last = max (p + (m.log2 : Int) - 52) (-1074) := ⟨_, rfl⟩
    have hK : m * 2 ^ (p - last).toNat < 2 ^ 53 := by
      have g1 : m < 2 ^ (m.log2 + 1) := Nat.lt_log2_self
      have g2 : m * 2 ^ (p - last).toNat < 2 ^ (m.log2 + 1) * 2 ^ (p - last).toNat := Nat.mul_lt_mul_of_pos_right g1 (Nat.two_pow_pos _)
      rw [← Nat.pow_add] at g2
      exact Nat.lt_of_lt_of_le g2 (Nat.pow_le_pow_right (by omega) (by omega))
    have e := nearest_exact FloatKind.f64.format s m p last hm (by rw [f64_least, f64_frac, hlast]; rfl) (by omega) (by
      rw [f64_binade, f64_inf, f64_least]
      generalize m * 2 ^ (p - last).toNat = K at *
      have : (last - -1074).toNat ≤ 1300 := by omega
      have := Nat.mul_le_mul_right 4503599627370496 this
      omega)
    have hsc := nearest_scale FloatKind.f32.format s m (p - last).toNat p
    rw [show p - ((p - last).toNat : Int) = last by omega] at hsc
    rw [narrow_eq e (.inr (by rw [log2_mul_pow _ hm]; omega)), hsc]
/-- Rounded twice is rounded once: a longer number. -/
theorem dbl_long (s : Bool) {m : Nat} {p : Int} (hL : 53 ≤ m.log2) (h1 : -126 ≤ p + m.log2) (h2 : p + m.log2 ≤ 125) (h3 : rhe (rhe m (2 ^ (m.log2 - 52))) (2 * 268435456) = rhe m (2 ^ (m.log2 - 52) * (2 * 268435456))) :
    floatToFloatBits .f64 (FloatKind.f64.format.nearest s m p) .f32 = some (FloatKind.f32.format.nearest s m p) := by
  obtain ⟨k, l, hr, hk, hg⟩ := dbl_read s (p := p) hL (by omega) (by omega)
  rw [narrow_eq hr (.inr (by omega)), hg]
  have hm : m ≠ 0 := by rintro rfl; simp at hL
  obtain ⟨L, hLe⟩ : ∃ L, L = m.log2 := ⟨_, rfl⟩
  have e := nearest_rhe FloatKind.f32.format s p (p + L - 23) hm (by rw [f32_least, f32_frac, ← hLe]; omega) (by omega)
  have hlow : 2 ^ L ≤ m := by rw [hLe]; exact Nat.log2_self_le hm
  have hup : m < 2 ^ (L + 1) := by rw [hLe]; exact Nat.lt_log2_self
  rw [← hLe] at hL h1 h2 h3 ⊢
  rw [show (p + L - 23 - p).toNat = L - 23 by omega] at e
  have ep : (2 : Nat) ^ (L - 23) = 2 ^ (L - 52) * (2 * 268435456) := by rw [show (2 * 268435456 : Nat) = 2 ^ 29 by rfl, ← Nat.pow_add, show L - 52 + 29 = L - 23 by omega]
  rw [ep, ← h3] at e
  have hP : 0 < 2 ^ (L - 52) := Nat.two_pow_pos _
  have hN1 : 2 ^ 52 ≤ rhe m (2 ^ (L - 52)) := rhe_ge hP (by rw [← Nat.pow_add, show 52 + (L - 52) = L by omega]; exact hlow)
  have hN2 : rhe m (2 ^ (L - 52)) ≤ 2 ^ 53 := rhe_le hP (by rw [← Nat.pow_add, show 53 + (L - 52) = L + 1 by omega]; omega)
  generalize rhe m (2 ^ (L - 52)) = N at *
  have c52 : (2 : Nat) ^ 52 = 4503599627370496 := rfl
  have c53 : (2 : Nat) ^ 53 = 9007199254740992 := rfl
  rw [e]
  congr 1
  rcases Nat.lt_or_ge N (2 ^ 53) with hN | hN
  · have hl := log2_is hN1 hN
    have e2 := nearest_rhe FloatKind.f32.format s (m := N) (p + L - 52) (p + L - 23) (by omega) (by rw [f32_least, f32_frac, hl]; omega) (by omega)
    rw [show (p + L - 23 - (p + L - 52)).toNat = 29 by omega] at e2
    exact e2
  · have hNe : N = 2 ^ 53 := by omega
    have a2 := nearest_scale FloatKind.f32.format s 1 53 (p + L + 1)
    rw [Nat.one_mul, show p + (L : Int) + 1 - ((53 : Nat) : Int) = p + L - 52 by omega] at a2
    have e2 := nearest_up FloatKind.f32.format s (m := 1) (p + L + 1) (p + L - 22) (by omega) (by rw [f32_least, f32_frac, show Nat.log2 1 = 0 by decide]; omega) (by omega)
    have er : rhe (2 ^ 53) (2 * 268435456) = 16777216 := by decide +kernel
    have ew : (p + L - 23 - -149).toNat * 8388608 + rhe (2 ^ 53) (2 * 268435456) = (p + L - 22 - -149).toNat * 8388608 + 1 * 2 ^ (p + L + 1 - (p + L - 22)).toNat := by
      rw [er, show (p + L + 1 - (p + L - 22)).toNat = 23 by omega, show (p + L - 22 - -149).toNat = (p + L - 23 - -149).toNat + 1 by omega]
      omega
    rw [hNe, a2, e2, f32_least, f32_binade, f32_inf, ew]
end

section
open Go.RowKit Ieee

def ltF (a b : Nat) : Bool := FloatKind.f32.format.order a b == some .lt
def gtF (a b : Nat) : Bool := FloatKind.f32.format.order a b == some .gt
def oneB : Nat := 1065353216
def twoB : Nat := 1073741824
def threeB : Nat := 1077936128
def lim01 (t : Nat) : Nat := if ltF t 0 then 0 else if gtF t oneB then oneB else canon t
def smB (t : Nat) : Nat := fop .mul (fop .mul (lim01 t) (lim01 t)) (fop .sub threeB (fop .mul twoB (lim01 t)))
def fadeB (d soft : Nat) : Nat := if ltF d soft then fop .sub oneB (smB (fop .quo d soft)) else 0
def edgeB (d soft : Nat) : Nat := if gtF d 0 then fadeB d soft else oneB
def boxD (dx dy W H : Nat) : Nat := if gtF (fop .sub (absF dy) H) (fop .sub (absF dx) W) then fop .sub (absF dy) H else fop .sub (absF dx) W
def ellQ (dx dy W H : Nat) : Nat := rootF (fop .add (fop .mul (fop .quo dx W) (fop .quo dx W)) (fop .mul (fop .quo dy H) (fop .quo dy H)))
def ellV (q W H S : Nat) : Nat := if gtF q oneB then edgeB (fop .mul (fop .sub q oneB) (if ltF H W then H else W)) S else oneB
/-- kind 1: a box; 2: an ellipse; else a polygon (odd: the places within). -/
def covV (kind : Int) (dx dy W H S : Nat) (odd : Bool) : Nat :=
  if kind = 1 then edgeB (boxD dx dy W H) S else if kind = 2 then ellV (ellQ dx dy W H) W H S else if odd then oneB else 0
def covB (kind : Int) (dx dy W H S : Nat) (odd out : Bool) : Nat := canon (if out then fop .sub oneB (covV kind dx dy W H S odd) else covV kind dx dy W H S odd)

theorem rd_one : rd oneB = .number false 8388608 (-23) := by decide
theorem rd_two : rd twoB = .number false 8388608 (-22) := by decide
theorem rd_three : rd threeB = .number false 12582912 (-22) := by decide
theorem rd_zero : rd 0 = .number false 0 (-149) := by decide
theorem write_nn {d : Datum} (h : d.isNaN = false) : isNaN (FloatKind.f32.format.write d) = false := by
  rw [isNaN_iff]
  cases d with
  | nan => cases h
  | infinity s =>
    show (FloatKind.f32.format.read (FloatKind.f32.format.word s FloatKind.f32.format.infRung)).isNaN = false
    rw [read_inf]; rfl
  | number s m p =>
    show (FloatKind.f32.format.read (FloatKind.f32.format.nearest s m p)).isNaN = false
    rcases read_nearest FloatKind.f32.format s m p with ⟨k, l, h, _⟩ | h <;> rw [h] <;> rfl
theorem fop_is {op : BinOp} {x y : Nat} {d : Datum} (h : floatBits op .f32 x y = some (FloatKind.f32.format.write d)) (hd : d.isNaN = false) : fop op x y = FloatKind.f32.format.write d := by
  unfold fop
  rw [h, Option.map_some, Option.getD_some, canon_of_num (write_nn hd)]
theorem fop_nn {op : BinOp} {x y : Nat} {d : Datum} (h : floatBits op .f32 x y = some (FloatKind.f32.format.write d)) (hd : d.isNaN = false) : isNaN (fop op x y) = false := by
  rw [fop_is h hd]; exact write_nn hd
theorem bits_sub (x y : Nat) : floatBits .sub .f32 x y = ((rd x).sum (rd y).opposite).map FloatKind.f32.format.write := rfl
theorem bits_add (x y : Nat) : floatBits .add .f32 x y = ((rd x).sum (rd y)).map FloatKind.f32.format.write := rfl
theorem bits_mul (x y : Nat) : floatBits .mul .f32 x y = ((rd x).product (rd y)).map FloatKind.f32.format.write := rfl
theorem bits_quo (x y : Nat) : floatBits .quo .f32 x y = ((rd x).quotient 25 (rd y)).map FloatKind.f32.format.write := rfl
theorem cases_nn {b : Nat} (h : isNaN b = false) : (∃ s m i, rd b = .number s m i) ∨ (∃ s, rd b = .infinity s) := by
  rw [isNaN_iff] at h
  cases hb : rd b with
  | number s m i => exact .inl ⟨s, m, i, rfl⟩
  | infinity s => exact .inr ⟨s, rfl⟩
  | nan s t => rw [hb] at h; cases h
theorem sub_nn_left {x y : Nat} (hx : ∃ s m i, rd x = .number s m i) (hy : isNaN y = false) : isNaN (fop .sub x y) = false := by
  obtain ⟨s, m, i, hx⟩ := hx
  rcases cases_nn hy with ⟨t, n, j, hy⟩ | ⟨t, hy⟩
  · exact fop_nn (by rw [bits_sub, hx, hy]; rfl) rfl
  · exact fop_nn (d := .infinity (!t)) (by rw [bits_sub, hx, hy]; rfl) rfl
theorem sub_nn_right {x y : Nat} (hx : isNaN x = false) (hy : ∃ s m i, rd y = .number s m i) : isNaN (fop .sub x y) = false := by
  obtain ⟨t, n, j, hy⟩ := hy
  rcases cases_nn hx with ⟨s, m, i, hx⟩ | ⟨s, hx⟩
  · exact fop_nn (by rw [bits_sub, hx, hy]; rfl) rfl
  · exact fop_nn (d := .infinity s) (by rw [bits_sub, hx, hy]; rfl) rfl
theorem mul_num {x y : Nat} (hx : ∃ s m i, rd x = .number s m i) (hy : ∃ s m i, rd y = .number s m i) : isNaN (fop .mul x y) = false := by
  obtain ⟨s, m, i, hx⟩ := hx
  obtain ⟨t, n, j, hy⟩ := hy
  exact fop_nn (by rw [bits_mul, hx, hy]; rfl) rfl

/-- Within 0 and 1. -/
theorem lim_num {t : Nat} (h : isNaN t = false) : ∃ s m i, rd (lim01 t) = .number s m i ∧ (m = 0 ∨ i + m.log2 ≤ 0) := by
  unfold lim01
  cases h1 : ltF t 0
  · cases h2 : gtF t oneB
    · simp only [Bool.false_eq_true, if_false]
      rw [canon_of_num h]
      rcases cases_nn h with ⟨s, m, i, hr⟩ | ⟨s, hr⟩
      · refine ⟨s, m, i, hr, ?_⟩
        have g1 : ((rd t).order (rd 0) == some .lt) = false := h1
        have g2 : ((rd t).order (rd oneB) == some .gt) = false := h2
        rw [hr, rd_zero] at g1
        rw [hr, rd_one] at g2
        simp only [Datum.order] at g1 g2
        by_cases hm : m = 0
        · exact .inl hm
        right
        have c1 : compare (signed s m (i - min i (-149)).toNat) (signed false 0 (-149 - min i (-149)).toNat) ≠ .lt := by intro e; rw [e] at g1; simp at g1
        have c2 : compare (signed s m (i - min i (-23)).toNat) (signed false 8388608 (-23 - min i (-23)).toNat) ≠ .gt := by intro e; rw [e] at g2; simp at g2
        have c1 := cmp_ge c1
        have z : signed false 0 (-149 - min i (-149)).toNat = 0 := by simp [signed]
        rw [z, signed_pow] at c1
        have hs : s = false := by
          cases s
          · rfl
          · exfalso
            simp only [if_true] at c1
            have : 0 < (m : Int) * 2 ^ (i - min i (-149)).toNat := Int.mul_pos (by omega) (pow_pos' _)
            rw [Int.neg_mul] at c1
            omega
        subst hs
        have c3 : signed false m (i - min i (-23)).toNat ≤ signed false 8388608 (-23 - min i (-23)).toNat := by
          rcases Int.lt_or_le (signed false 8388608 (-23 - min i (-23)).toNat) (signed false m (i - min i (-23)).toNat) with h | h
          · exact absurd (by rw [Int.compare_eq_ite_lt, if_neg (by omega), if_pos h]) c2
          · exact h
        rw [signed_pow, signed_pow] at c3
        simp only [Bool.false_eq_true, if_false] at c3
        have c4 : m * 2 ^ (i - min i (-23)).toNat ≤ 8388608 * 2 ^ (-23 - min i (-23)).toNat := by exact_mod_cast c3
        have h23 : (8388608 : Nat) = 2 ^ 23 := by decide
        rw [h23, ← Nat.pow_add] at c4
        have c5 := log2_of_le (Nat.mul_ne_zero hm (Nat.ne_of_gt (Nat.two_pow_pos _))) c4
        rw [log2_mul_pow _ hm] at c5
        omega
      · exfalso
        have g1 : ((rd t).order (rd 0) == some .lt) = false := h1
        have g2 : ((rd t).order (rd oneB) == some .gt) = false := h2
        rw [hr, rd_zero] at g1
        rw [hr, rd_one] at g2
        cases s
        · revert g2; decide
        · revert g1; decide
    · simp only [Bool.false_eq_true, if_false, if_true]
      exact ⟨_, _, _, rd_one, .inr (by decide)⟩
  · simp only [if_true]
    exact ⟨_, _, _, rd_zero, .inl rfl⟩
theorem log2_mul_le {a b : Nat} (ha : a ≠ 0) (hb : b ≠ 0) : (a * b).log2 ≤ a.log2 + b.log2 + 1 := by
  refine log2_le ?_
  have h1 : a < 2 ^ (a.log2 + 1) := Nat.lt_log2_self
  have h2 : b < 2 ^ (b.log2 + 1) := Nat.lt_log2_self
  have := Nat.mul_lt_mul_of_lt_of_le h1 (Nat.le_of_lt h2) (by omega)
  rw [← Nat.pow_add] at this
  rw [show a.log2 + b.log2 + 1 + 1 = a.log2 + 1 + (b.log2 + 1) by omega]
  exact this
theorem f32_rungs : FloatKind.f32.format.binade ≤ FloatKind.f32.format.infRung := by rw [f32_binade, f32_inf]; decide
theorem sm_parts {t : Nat} (h : isNaN t = false) : isNaN (fop .mul (lim01 t) (lim01 t)) = false ∧ isNaN (fop .mul twoB (lim01 t)) = false ∧ isNaN (fop .sub threeB (fop .mul twoB (lim01 t))) = false ∧ isNaN (smB t) = false := by
  obtain ⟨s, m, i, hr, hb⟩ := lim_num h
  unfold smB
  generalize lim01 t = v at hr
  -- v * v
  have e1 : ∃ s' k l, rd (fop .mul v v) = .number s' k l := by
    have he : fop .mul v v = FloatKind.f32.format.nearest (s ^^ s) (m * m) (i + i) := fop_is (d := .number (s ^^ s) (m * m) (i + i)) (by rw [bits_mul, hr]; rfl) rfl
    obtain ⟨k, l, hk⟩ := finite_write (s ^^ s) (m * m) (i + i) (by
      rcases hb with h0 | h0
      · left; rw [h0]
      · by_cases hm : m = 0
        · left; rw [hm]
        · right; have := log2_mul_le hm hm; omega)
    exact ⟨_, k, l, by rw [he]; exact hk⟩
  -- 2 * v
  have e2 : ∃ s' k l, rd (fop .mul twoB v) = .number s' k l ∧ (k = 0 ∨ l + k.log2 ≤ 2) := by
    have he : fop .mul twoB v = FloatKind.f32.format.nearest (false ^^ s) (8388608 * m) (-22 + i) := fop_is (d := .number (false ^^ s) (8388608 * m) (-22 + i)) (by rw [bits_mul, rd_two, hr]; rfl) rfl
    by_cases hm : m = 0
    · refine ⟨false ^^ s, 0, -149, ?_, .inl rfl⟩
      rw [he, hm]
      exact nearest_zero FloatKind.f32.format (false ^^ s) (-22 + i)
    · have hi : i + m.log2 ≤ 0 := by rcases hb with h0 | h0; · exact absurd h0 hm
                                     · exact h0
      have hl : (8388608 * m).log2 = m.log2 + 23 := by
        have := log2_mul_pow 23 hm
        rw [Nat.mul_comm 8388608 m, show (8388608 : Nat) = 2 ^ 23 by decide]; exact this
      obtain ⟨k, l, hk⟩ := finite_write (false ^^ s) (8388608 * m) (-22 + i) (.inr (by omega))
      refine ⟨false ^^ s, k, l, by rw [he]; exact hk, ?_⟩
      rcases write_bound FloatKind.f32.format f32_rungs (show 8388608 * m ≠ 0 by omega) hk with h1 | h1
      · exact .inl h1
      · right; omega
  obtain ⟨s2, k2, l2, hr2, hb2⟩ := e2
  generalize fop .mul twoB v = w at hr2
  -- 3 - w
  have e3 : ∃ s' k l, rd (fop .sub threeB w) = .number s' k l := by
    obtain ⟨base, hbase⟩ : ∃ base, base = min (-22 : Int) l2 := ⟨_, rfl⟩
    obtain ⟨T, hT⟩ : ∃ T, T = signed false 12582912 (-22 - base).toNat + signed (!s2) k2 (l2 - base).toNat := ⟨_, rfl⟩
    have he : fop .sub threeB w = FloatKind.f32.format.nearest (if T = 0 then false && !s2 else decide (T < 0)) T.natAbs base := by
      refine fop_is (d := .number (if T = 0 then false && !s2 else decide (T < 0)) T.natAbs base) ?_ rfl
      rw [bits_sub, rd_three, hr2, hT, hbase]; rfl
    obtain ⟨k, l, hk⟩ := finite_write (if T = 0 then false && !s2 else decide (T < 0)) T.natAbs base (by
      by_cases hT0 : T.natAbs = 0
      · exact .inl hT0
      right
      have a1 : (12582912 : Nat) * 2 ^ (-22 - base).toNat < 2 ^ (2 - base).toNat := by
        have : (2 : Nat) ^ (2 - base).toNat = 2 ^ 24 * 2 ^ (-22 - base).toNat := by rw [← Nat.pow_add]; congr 1; omega
        rw [this]
        exact Nat.mul_lt_mul_of_pos_right (by decide) (Nat.two_pow_pos _)
      have a2 : k2 * 2 ^ (l2 - base).toNat < 2 ^ (3 - base).toNat := by
        rcases hb2 with h0 | h0
        · rw [h0, Nat.zero_mul]; exact Nat.two_pow_pos _
        · have b1 : k2 < 2 ^ (k2.log2 + 1) := Nat.lt_log2_self
          have b2 := Nat.mul_lt_mul_of_pos_right b1 (Nat.two_pow_pos (l2 - base).toNat)
          rw [← Nat.pow_add] at b2
          exact Nat.lt_of_lt_of_le b2 (Nat.pow_le_pow_right (by omega) (by omega))
      have a3 : T.natAbs ≤ 12582912 * 2 ^ (-22 - base).toNat + k2 * 2 ^ (l2 - base).toNat := by
        rw [hT]
        rcases signed_abs false 12582912 (-22 - base).toNat with q1 | q1 <;> rcases signed_abs (!s2) k2 (l2 - base).toNat with q2 | q2 <;> rw [q1, q2] <;> omega
      have a4 : (2 : Nat) ^ (3 - base).toNat = 2 * 2 ^ (2 - base).toNat := by rw [show (3 - base).toNat = (2 - base).toNat + 1 by omega, Nat.pow_succ]; omega
      have a5 : (2 : Nat) ^ ((3 - base).toNat + 1) = 2 * 2 ^ (3 - base).toNat := by rw [Nat.pow_succ]; omega
      have a6 : T.natAbs.log2 ≤ (3 - base).toNat := log2_le (by omega)
      omega)
    exact ⟨_, k, l, by rw [he]; exact hk⟩
  have nn : ∀ {b : Nat}, (∃ s' k l, rd b = .number s' k l) → isNaN b = false := fun ⟨_, _, _, h⟩ => by rw [isNaN_iff, h]; rfl
  exact ⟨nn e1, nn ⟨_, _, _, hr2⟩, nn e3, mul_num e1 e3⟩
theorem sm_nn {t : Nat} (h : isNaN t = false) : isNaN (smB t) = false := (sm_parts h).2.2.2
theorem quo_some (s t : Bool) (m : Nat) {n : Nat} (i j : Int) (hn : n ≠ 0) : ∃ D, ((Datum.number s m i).quotient 25 (.number t n j)).map FloatKind.f32.format.write = some (FloatKind.f32.format.write D) ∧ D.isNaN = false := by
  simp only [Datum.quotient, if_neg hn, Option.map_some]
  exact ⟨_, rfl, rfl⟩
theorem fade_quo {d soft : Nat} (hd : isNaN d = false) (hp : gtF d 0 = true) (hs : ∃ s m i, rd soft = .number s m i) (h1 : ltF d soft = true) : isNaN (fop .quo d soft) = false := by
  obtain ⟨t, n, j, hs⟩ := hs
  have g1 : ((rd d).order (rd soft) == some .lt) = true := h1
  have g2 : ((rd d).order (rd 0) == some .gt) = true := hp
  rcases cases_nn hd with ⟨s, m, i, hr⟩ | ⟨s, hr⟩
  · have hn : n ≠ 0 := by
      intro hn
      rw [hr, hs, hn] at g1
      rw [hr, rd_zero] at g2
      simp only [Datum.order, beq_iff_eq, Option.some.injEq] at g1 g2
      have c1 := cmp_lt g1
      have c2 : signed false 0 (-149 - min i (-149)).toNat < signed s m (i - min i (-149)).toNat := by
        rw [Int.compare_eq_ite_lt] at g2
        split at g2
        · cases g2
        · split at g2
          · assumption
          · cases g2
      rw [signed_pow, signed_pow] at c1 c2
      have z1 : (if t = true then -((0 : Nat) : Int) else ((0 : Nat) : Int)) = 0 := by cases t <;> rfl
      rw [z1, Int.zero_mul] at c1
      simp only [Bool.false_eq_true, if_false] at c2
      have z2 : ((0 : Nat) : Int) * 2 ^ (-149 - min i (-149)).toNat = 0 := by simp
      rw [z2] at c2
      generalize (if s = true then -(m : Int) else (m : Int)) = z at c1 c2
      have p1 := pow_pos' (i - min i j).toNat
      have p2 := pow_pos' (i - min i (-149)).toNat
      by_cases hz : 0 ≤ z
      · have := Int.mul_nonneg hz (Int.le_of_lt p1); omega
      · have := Int.mul_nonpos_of_nonpos_of_nonneg (show z ≤ 0 by omega) (Int.le_of_lt p2); omega
    have hq : isNaN (fop .quo d soft) = false := by
      obtain ⟨D, hD1, hD2⟩ : ∃ D, floatBits .quo .f32 d soft = some (FloatKind.f32.format.write D) ∧ D.isNaN = false := by
        rw [bits_quo, hr, hs]
        exact quo_some _ _ _ _ _ hn
      exact fop_nn hD1 hD2
    exact hq
  · exfalso
    rw [hr, hs] at g1
    rw [hr, rd_zero] at g2
    cases s
    · revert g1; simp [Datum.order]
    · revert g2; simp [Datum.order]
theorem fade_nn {d soft : Nat} (hd : isNaN d = false) (hp : gtF d 0 = true) (hs : ∃ s m i, rd soft = .number s m i) : isNaN (fadeB d soft) = false := by
  unfold fadeB
  cases h1 : ltF d soft
  · rw [if_neg (by simp)]; decide
  · rw [if_pos rfl]
    exact sub_nn_left ⟨_, _, _, rd_one⟩ (sm_nn (fade_quo hd hp hs h1))
theorem edge_nn {d soft : Nat} (hd : isNaN d = false) (hs : ∃ s m i, rd soft = .number s m i) : isNaN (edgeB d soft) = false := by
  unfold edgeB
  cases h : gtF d 0
  · rw [if_neg (by simp)]; decide
  · rw [if_pos rfl]; exact fade_nn hd h hs
theorem box_nn {dx dy W H : Nat} (hx : ∃ s m i, rd (absF dx) = .number s m i) (hy : ∃ s m i, rd (absF dy) = .number s m i) (hW : ∃ s m i, rd W = .number s m i) (hH : ∃ s m i, rd H = .number s m i) : isNaN (boxD dx dy W H) = false := by
  have n1 : ∀ {a : Nat}, (∃ s m i, rd a = .number s m i) → isNaN a = false := fun ⟨_, _, _, h⟩ => by rw [isNaN_iff, h]; rfl
  unfold boxD
  split
  · exact sub_nn_right (n1 hy) hH
  · exact sub_nn_right (n1 hx) hW
/-- A number that is not 0. -/
def nzF (b : Nat) : Prop := ∃ s m i, rd b = .number s m i ∧ m ≠ 0
theorem quo_nn {x y : Nat} (hx : ∃ s m i, rd x = .number s m i) (hy : nzF y) : isNaN (fop .quo x y) = false := by
  obtain ⟨s, m, i, hr⟩ := hx
  obtain ⟨t, n, j, hs, hn⟩ := hy
  obtain ⟨D, hD1, hD2⟩ : ∃ D, floatBits .quo .f32 x y = some (FloatKind.f32.format.write D) ∧ D.isNaN = false := by
    rw [bits_quo, hr, hs]
    exact quo_some _ _ _ _ _ hn
  exact fop_nn hD1 hD2
/-- Not below nought, and no NaN. -/
def pnF (b : Nat) : Prop := (∃ m i, rd b = .number false m i) ∨ rd b = .infinity false
theorem pn_write {d : Datum} (h : d.isNaN = false) (hd : PN d) : pnF (FloatKind.f32.format.write d) := by
  have h1 := PN_write hd
  have h2 := write_nn h
  rcases cases_nn h2 with ⟨s, m, i, hr⟩ | ⟨s, hr⟩
  · rw [hr] at h1
    rcases h1 with h1 | ⟨_, _, h1⟩
    · have : s = false := h1
      subst this
      exact .inl ⟨m, i, hr⟩
    · rw [h1] at h; cases h
  · rw [hr] at h1
    rcases h1 with h1 | ⟨_, _, h1⟩
    · have : s = false := h1
      subst this
      exact .inr hr
    · rw [h1] at h; cases h
theorem sq_pn {x : Nat} (hx : isNaN x = false) : pnF (fop .mul x x) := by
  rcases cases_nn hx with ⟨s, m, i, hr⟩ | ⟨s, hr⟩
  · have he : fop .mul x x = FloatKind.f32.format.write (.number (s ^^ s) (m * m) (i + i)) := fop_is (by rw [bits_mul, hr]; rfl) rfl
    rw [he]
    exact pn_write rfl (show (s ^^ s) = false by cases s <;> rfl)
  · have he : fop .mul x x = FloatKind.f32.format.write (.infinity (s ^^ s)) := fop_is (by rw [bits_mul, hr]; rfl) rfl
    rw [he]
    exact pn_write rfl (show (s ^^ s) = false by cases s <;> rfl)
theorem sum_pn {x y : Nat} (hx : pnF x) (hy : pnF y) : pnF (fop .add x y) := by
  rcases hx with ⟨m, i, hr⟩ | hr <;> rcases hy with ⟨n, j, hs⟩ | hs
  · obtain ⟨T, hT⟩ : ∃ T, T = signed false m (i - min i j).toNat + signed false n (j - min i j).toNat := ⟨_, rfl⟩
    have h0 : 0 ≤ T := by
      rw [hT, signed_pow, signed_pow]
      simp only [Bool.false_eq_true, if_false]
      have a := Int.mul_nonneg (show (0 : Int) ≤ m by omega) (Int.le_of_lt (pow_pos' (i - min i j).toNat))
      have b := Int.mul_nonneg (show (0 : Int) ≤ n by omega) (Int.le_of_lt (pow_pos' (j - min i j).toNat))
      omega
    have he : fop .add x y = FloatKind.f32.format.write (.number (if T = 0 then false && false else decide (T < 0)) T.natAbs (min i j)) := fop_is (by rw [bits_add, hr, hs, hT]; rfl) rfl
    rw [he]
    refine pn_write rfl ?_
    show (if T = 0 then false && false else decide (T < 0)) = false
    split
    · rfl
    · exact decide_eq_false (by omega)
  all_goals
    have he : fop .add x y = FloatKind.f32.format.write (.infinity false) := fop_is (by rw [bits_add, hr, hs]; rfl) rfl
    rw [he]
    exact pn_write rfl rfl
theorem ellQ_nn {dx dy W H : Nat} (hx : ∃ s m i, rd dx = .number s m i) (hy : ∃ s m i, rd dy = .number s m i) (hW : nzF W) (hH : nzF H) : pnF (fop .add (fop .mul (fop .quo dx W) (fop .quo dx W)) (fop .mul (fop .quo dy H) (fop .quo dy H))) ∧ isNaN (ellQ dx dy W H) = false := by
  have h := sum_pn (sq_pn (quo_nn hx hW)) (sq_pn (quo_nn hy hH))
  obtain ⟨_, _, _, _, _, _, _, h2⟩ := root_ok h
  exact ⟨h, h2⟩
theorem ellV_nn {q W H S : Nat} (hq : isNaN q = false) (hW : nzF W) (hH : nzF H) (hS : ∃ s m i, rd S = .number s m i) : isNaN (ellV q W H S) = false := by
  unfold ellV
  split
  · have h1 := sub_nn_right hq ⟨_, _, _, rd_one⟩
    have hl : nzF (if ltF H W then H else W) := by split <;> assumption
    refine edge_nn ?_ hS
    generalize (if ltF H W then H else W) = l at hl
    obtain ⟨t, n, j, hs, hn⟩ := hl
    rcases cases_nn h1 with ⟨s, m, i, hr⟩ | ⟨s, hr⟩
    · exact mul_num ⟨_, _, _, hr⟩ ⟨_, _, _, hs⟩
    · refine fop_nn (d := .infinity (s ^^ t)) ?_ rfl
      rw [bits_mul, hr, hs]
      simp only [Datum.product, if_neg hn, Option.map_some]
  · decide
theorem cov_nn {kind : Int} {dx dy W H S : Nat} {odd out : Bool} (hx : ∃ s m i, rd dx = .number s m i) (hy : ∃ s m i, rd dy = .number s m i) (hax : ∃ s m i, rd (absF dx) = .number s m i) (hay : ∃ s m i, rd (absF dy) = .number s m i)
    (hW : ∃ s m i, rd W = .number s m i) (hH : ∃ s m i, rd H = .number s m i) (hS : ∃ s m i, rd S = .number s m i) (hk : kind = 2 → nzF W ∧ nzF H) : isNaN (covB kind dx dy W H S odd out) = false := by
  have hv : isNaN (covV kind dx dy W H S odd) = false := by
    unfold covV
    split
    · exact edge_nn (box_nn hax hay hW hH) hS
    · split
      · rename_i h2
        obtain ⟨a, b⟩ := hk h2
        exact ellV_nn (ellQ_nn hx hy a b).2 a b hS
      · cases odd <;> decide
  unfold covB
  cases out
  · rw [if_neg (by simp), canon_of_num hv]; exact hv
  · rw [if_pos rfl]
    have := sub_nn_left ⟨_, _, _, rd_one⟩ hv
    rw [canon_of_num this]; exact this
end

section
open Go.RowKit Ieee

theorem sum_wide (s t : Bool) (m n : Nat) {i j l1 l2 : Int} (h1 : l1 ≤ i) (h2 : l2 ≤ j) : ∃ (sg : Bool) (T c : Nat), (Datum.number s m i).sum (.number t n j) = some (.number sg T (min i j)) ∧
    (Datum.number s (m * 2 ^ (i - l1).toNat) l1).sum (.number t (n * 2 ^ (j - l2).toNat) l2) = some (.number sg (T * 2 ^ c) (min i j - (c : Int))) ∧ T = (signed s m (i - min i j).toNat + signed t n (j - min i j).toNat).natAbs := by
  obtain ⟨c, hc⟩ : ∃ c, c = (min i j - min l1 l2).toNat := ⟨_, rfl⟩
  have e1 : signed s (m * 2 ^ (i - l1).toNat) (l1 - min l1 l2).toNat = signed s m (i - min i j).toNat * 2 ^ c := by
    rw [signed_pow, signed_pow, Int.mul_assoc, ← Int.pow_add]
    push_cast
    rw [show (i - min i j).toNat + c = (i - l1).toNat + (l1 - min l1 l2).toNat by omega, Int.pow_add, ← Int.mul_assoc]
    congr 1
    split
    · rw [Int.neg_mul]
    · rfl
  have e2 : signed t (n * 2 ^ (j - l2).toNat) (l2 - min l1 l2).toNat = signed t n (j - min i j).toNat * 2 ^ c := by
    rw [signed_pow, signed_pow, Int.mul_assoc, ← Int.pow_add]
    push_cast
    rw [show (j - min i j).toNat + c = (j - l2).toNat + (l2 - min l1 l2).toNat by omega, Int.pow_add, ← Int.mul_assoc]
    congr 1
    split
    · rw [Int.neg_mul]
    · rfl
  refine ⟨_, _, c, rfl, ?_, rfl⟩
  simp only [Datum.sum]
  rw [e1, e2, ← Int.add_mul]
  generalize signed s m (i - min i j).toNat + signed t n (j - min i j).toNat = total
  have hp : (0 : Int) < 2 ^ c := pow_pos' c
  have a1 : (total * 2 ^ c).natAbs = total.natAbs * 2 ^ c := by rw [Int.natAbs_mul, Int.natAbs_pow]; rfl
  have a2 : (total * 2 ^ c = 0) = (total = 0) := by
    apply propext
    constructor
    · intro h; rcases Int.mul_eq_zero.1 h with h | h; · exact h
      · omega
    · rintro rfl; exact Int.zero_mul _
  have a3 : (total * 2 ^ c < 0) = (total < 0) := by
    apply propext
    constructor
    · intro h
      rcases Int.lt_or_le total 0 with h0 | h0
      · exact h0
      · have := Int.mul_nonneg h0 (Int.le_of_lt hp); omega
    · intro h; exact Int.mul_neg_of_neg_of_pos h hp
  rw [a1, show min l1 l2 = min i j - (c : Int) by omega]
  simp only [a2, a3]

/-- The magnitude of a sum. -/
theorem sum_parts (s t : Bool) (m n : Nat) (i j : Int) (hm : m < 16777216) (hn : n < 16777216) :
    ∃ A b D, A < 16777216 ∧ b < 16777216 ∧ ((signed s m (i - min i j).toNat + signed t n (j - min i j).toNat).natAbs = A * 2 ^ D + b ∨ (signed s m (i - min i j).toNat + signed t n (j - min i j).toNat).natAbs + b = A * 2 ^ D ∨ (signed s m (i - min i j).toNat + signed t n (j - min i j).toNat).natAbs ≤ b) := by
  have e : ∀ (s : Bool) (m k : Nat), signed s m k = if s then -((m * 2 ^ k : Nat) : Int) else ((m * 2 ^ k : Nat) : Int) := by
    intro s m k
    unfold signed
    rw [Nat.shiftLeft_eq]
  rcases Int.lt_or_le i j with h | h
  · refine ⟨n, m, (j - min i j).toNat, hn, hm, ?_⟩
    rw [e, e, show (i - min i j).toNat = 0 by omega, Nat.pow_zero, Nat.mul_one]
    generalize n * 2 ^ (j - min i j).toNat = M
    cases s <;> cases t <;> simp only [Bool.false_eq_true, if_false, if_true] <;> omega
  · refine ⟨m, n, (i - min i j).toNat, hm, hn, ?_⟩
    rw [e, e, show (j - min i j).toNat = 0 by omega, Nat.pow_zero, Nat.mul_one]
    generalize m * 2 ^ (i - min i j).toNat = M
    cases s <;> cases t <;> simp only [Bool.false_eq_true, if_false, if_true] <;> omega
theorem log2_small {b : Nat} (h : b < 16777216) : b.log2 ≤ 23 := log2_le h
theorem log2_mono {a b : Nat} (h : a ≤ b) (h0 : b ≠ 0) : a.log2 ≤ b.log2 := by
  by_cases ha : a = 0
  · subst ha; simp
  · exact (Nat.le_log2 h0).2 (Nat.le_trans (Nat.log2_self_le ha) h)
/-- A single that is not too great. -/
def SmB (k : Int) (b : Nat) : Prop := ∃ s m i, rd b = .number s m i ∧ (m = 0 ∨ i + m.log2 ≤ k)
/-- How great a sum is. -/
theorem sum_bound {s t : Bool} {m n : Nat} {i' j' k : Int} (h1 : m = 0 ∨ i' + m.log2 ≤ k) (h2 : n = 0 ∨ j' + n.log2 ≤ k) {T : Nat} (hT : T = (signed s m (i' - min i' j').toNat + signed t n (j' - min i' j').toNat).natAbs) : T = 0 ∨ min i' j' + T.log2 ≤ k + 1 := by
  by_cases hT0 : T = 0
  · exact .inl hT0
  right
  have e : ∀ (s : Bool) (m k : Nat), (signed s m k).natAbs = m * 2 ^ k := by
    intro s m k
    unfold signed
    rw [Nat.shiftLeft_eq]
    split
    · rw [Int.natAbs_neg, Int.natAbs_natCast]
    · rw [Int.natAbs_natCast]
  have hle : T ≤ m * 2 ^ (i' - min i' j').toNat + n * 2 ^ (j' - min i' j').toNat := by
    rw [hT, ← e s, ← e t]; omega
  have one : ∀ (m : Nat) (i : Int), min i' j' ≤ i → (m = 0 ∨ i + m.log2 ≤ k) → m * 2 ^ (i - min i' j').toNat < 2 ^ (k - min i' j' + 1).toNat := by
    intro m i hi h
    rcases h with rfl | h
    · rw [Nat.zero_mul]; exact Nat.two_pow_pos _
    · have h3 : m * 2 ^ (i - min i' j').toNat < 2 ^ (m.log2 + 1) * 2 ^ (i - min i' j').toNat := Nat.mul_lt_mul_of_pos_right Nat.lt_log2_self (Nat.two_pow_pos _)
      rw [← Nat.pow_add] at h3
      exact Nat.lt_of_lt_of_le h3 (Nat.pow_le_pow_right (by omega) (by omega))
  have a := one m i' (by omega) h1
  have b := one n j' (by omega) h2
  by_cases hk : k - min i' j' + 1 < 0
  · rw [show (k - min i' j' + 1).toNat = 0 by omega] at a b
    omega
  · have hT2 : T.log2 ≤ (k - min i' j' + 1).toNat := log2_le (by rw [Nat.pow_succ]; omega)
    omega
theorem bits64_add (x y : Nat) : floatBits .add .f64 x y = ((FloatKind.f64.decode x).sum (FloatKind.f64.decode y)).map FloatKind.f64.format.write := rfl
theorem bits64_quo (x y : Nat) : floatBits .quo .f64 x y = ((FloatKind.f64.decode x).quotient 54 (FloatKind.f64.decode y)).map FloatKind.f64.format.write := rfl
theorem read64_bd {b : Nat} {s : Bool} {m : Nat} {i : Int} (h : FloatKind.f64.decode b = .number s m i) : m < 2 ^ 53 := by
  unfold FloatKind.decode Format.read at h
  rw [f64_binade, f64_inf] at h
  have c53 : (2 : Nat) ^ 53 = 9007199254740992 := rfl
  simp only at h
  split at h
  · simp only [Datum.number.injEq] at h; omega
  · split at h
    · simp only [Datum.number.injEq] at h; omega
    · split at h <;> cases h
/-- A sum by way of doubles is the sum. -/
theorem add_dbl {x y : Nat} {k : Int} (hx : SmB k x) (hy : SmB k y) (hk : k ≤ 100) : (∃ r1 r2 r3, floatToFloatBits .f32 x .f64 = some r1 ∧ floatToFloatBits .f32 y .f64 = some r2 ∧ floatBits .add .f64 r1 r2 = some r3 ∧ floatToFloatBits .f64 r3 .f32 = some (fop .add x y)) ∧ SmB (k + 2) (fop .add x y) := by
  obtain ⟨s, m, i, ex, bx⟩ := hx
  obtain ⟨t, n, j, ey, by'⟩ := hy
  obtain ⟨m1, m2, _⟩ := read_bd ex
  obtain ⟨n1, n2, _⟩ := read_bd ey
  obtain ⟨r1, k1, l1, w1, w2, w3, w4, w5⟩ := widen x s m i ex
  obtain ⟨r2, k2, l2, v1, v2, v3, v4, v5⟩ := widen y t n j ey
  obtain ⟨sg, T, c, e1, e2, e3⟩ := sum_wide s t m n w3 v3
  have hb := sum_bound bx by' e3
  have hf : floatBits .add .f32 x y = some (FloatKind.f32.format.nearest sg T (min i j)) := by rw [bits_add, ex, ey, e1]; rfl
  obtain ⟨k', l', hr⟩ := finite_write sg T (min i j) (hb.imp id fun h => by omega)
  have hF : fop .add x y = FloatKind.f32.format.nearest sg T (min i j) := by
    unfold fop
    rw [hf]
    exact canon_of_num (by rw [isNaN_iff, hr]; rfl)
  rw [hF]
  refine ⟨⟨r1, r2, FloatKind.f64.format.nearest sg T (min i j), w1, v1, ?_, ?_⟩, ?_⟩
  · rw [bits64_add, w2, v2, w5, v5, e2]
    show some (FloatKind.f64.format.nearest sg (T * 2 ^ c) (min i j - (c : Int))) = _
    rw [nearest_scale]
  · by_cases hL : T.log2 ≤ 52
    · exact dbl_exact sg hL (by omega) (hb.imp id fun h => by omega)
    · have hT0 : T ≠ 0 := by rintro rfl; simp at hL
      have hb : min i j + T.log2 ≤ k + 1 := hb.resolve_left hT0
      refine dbl_long sg (by omega) (by omega) (by omega) (rhe_twice (Nat.two_pow_pos _) (by omega) ?_)
      obtain ⟨A, b, D, hA, hbb, hc⟩ := sum_parts s t m n i j m1 n1
      rw [← e3] at hc
      rcases hc with h | h | h
      · exact sum_tie (.inl h) hA hbb (by omega)
      · exact sum_tie (.inr h) hA hbb (by omega)
      · have : T.log2 ≤ 23 := log2_small (by omega)
        omega
  · by_cases hT0 : T = 0
    · refine ⟨sg, 0, FloatKind.f32.format.leastPlace, ?_, .inl rfl⟩
      rw [hT0]
      exact nearest_zero _ _ _
    · refine ⟨sg, k', l', hr, ?_⟩
      have hw := write_bound FloatKind.f32.format f32_rungs hT0 hr
      rcases hw with h | h
      · exact .inl h
      · right
        rcases hb with h2 | h2
        · exact absurd h2 hT0
        · omega

theorem quo_log {X n l : Nat} (hn : 0 < n) (h1 : 2 ^ l * n ≤ X) (h2 : X < 2 ^ (l + 1) * n) (c : Bool) : (2 * (X / n) + c.toNat).log2 = l + 1 := by
  have a : 2 ^ l ≤ X / n := by rw [Nat.le_div_iff_mul_le hn]; exact h1
  have b : X / n < 2 ^ (l + 1) := by rw [Nat.div_lt_iff_lt_mul hn]; exact h2
  have hc : c.toNat ≤ 1 := by cases c <;> decide
  have e1 : (2 : Nat) ^ (l + 1) = 2 * 2 ^ l := by rw [Nat.pow_succ, Nat.mul_comm]
  have e2 : (2 : Nat) ^ (l + 1 + 1) = 2 * 2 ^ (l + 1) := by rw [Nat.pow_succ, Nat.mul_comm]
  exact log2_is (by omega) (by omega)
/-- A quotient by way of doubles is the quotient. -/
theorem quo_dbl {x y : Nat} {s t : Bool} {m n : Nat} {i j : Int} (ex : rd x = .number s m i) (ey : rd y = .number t n j) (hm : m ≠ 0) (hn : n ≠ 0) (b1 : -125 ≤ i + m.log2 - (j + n.log2)) (b2 : i + m.log2 - (j + n.log2) ≤ 120) :
    (∃ r1 r2 r3, floatToFloatBits .f32 x .f64 = some r1 ∧ floatToFloatBits .f32 y .f64 = some r2 ∧ floatBits .quo .f64 r1 r2 = some r3 ∧ floatToFloatBits .f64 r3 .f32 = some (fop .quo x y)) ∧ SmB (i + m.log2 - (j + n.log2) + 1) (fop .quo x y) ∧ ∃ k l, rd (fop .quo x y) = .number (s ^^ t) k l := by
  obtain ⟨m1, m2, _⟩ := read_bd ex
  obtain ⟨n1, n2, _⟩ := read_bd ey
  have lm := log2_small m1
  have ln := log2_small n1
  obtain ⟨r1, k1, l1, w1, w2, w3, w4, w5⟩ := widen x s m i ex
  obtain ⟨r2, k2, l2, v1, v2, v3, v4, v5⟩ := widen y t n j ey
  have hk1 : k1.log2 ≤ 52 := log2_le (read64_bd w2)
  rw [w5, log2_mul_pow _ hm] at hk1
  obtain ⟨T, hT⟩ : ∃ T, T = 25 + n.log2 - m.log2 := ⟨_, rfl⟩
  obtain ⟨X, hX⟩ : ∃ X, X = m * 2 ^ T := ⟨_, rfl⟩
  have n0 : 0 < n := by omega
  -- how long the quotient is
  have pm1 : 2 ^ m.log2 ≤ m := Nat.log2_self_le hm
  have pm2 : m < 2 ^ (m.log2 + 1) := Nat.lt_log2_self
  have pn1 : 2 ^ n.log2 ≤ n := Nat.log2_self_le hn
  have pn2 : n < 2 ^ (n.log2 + 1) := Nat.lt_log2_self
  have x1 : 2 ^ (25 + n.log2) ≤ X := by
    rw [hX, show 25 + n.log2 = m.log2 + T by omega, Nat.pow_add]
    exact Nat.mul_le_mul_right _ pm1
  have x2 : X < 2 ^ (26 + n.log2) := by
    rw [hX, show 26 + n.log2 = (m.log2 + 1) + T by omega, Nat.pow_add]
    exact Nat.mul_lt_mul_of_pos_right pm2 (Nat.two_pow_pos _)
  obtain ⟨l, hl, hl1, hl2⟩ : ∃ l, (l = 24 ∨ l = 25) ∧ 2 ^ l * n ≤ X ∧ X < 2 ^ (l + 1) * n := by
    have g1 : 2 ^ 24 * n ≤ X := by
      have : 2 ^ 24 * n ≤ 2 ^ 24 * 2 ^ (n.log2 + 1) := Nat.mul_le_mul_left _ (by omega)
      rw [← Nat.pow_add, show 24 + (n.log2 + 1) = 25 + n.log2 by omega] at this
      omega
    have g2 : X < 2 ^ 26 * n := by
      have : 2 ^ 26 * 2 ^ n.log2 ≤ 2 ^ 26 * n := Nat.mul_le_mul_left _ pn1
      rw [← Nat.pow_add] at this
      omega
    rcases Nat.lt_or_ge X (2 ^ 25 * n) with h | h
    · exact ⟨24, .inl rfl, g1, h⟩
    · exact ⟨25, .inr rfl, h, g2⟩
  have n25 := quo_log n0 hl1 hl2 (X % n != 0)
  obtain ⟨Y, hY⟩ : ∃ Y, Y = X * 2 ^ 29 := ⟨_, rfl⟩
  have n54 := quo_log (X := Y) (l := l + 29) n0 (by rw [hY, Nat.pow_add, Nat.mul_right_comm]; exact Nat.mul_le_mul_right _ hl1) (by rw [hY, show l + 29 + 1 = (l + 1) + 29 by omega, Nat.pow_add, Nat.mul_right_comm]; exact Nat.mul_lt_mul_of_pos_right hl2 (Nat.two_pow_pos _)) (Y % n != 0)
  have e1 : (Datum.number s m i).quotient 25 (.number t n j) = some (.number (s ^^ t) (2 * (X / n) + (X % n != 0).toNat) (i - j - T - 1)) := by
    simp only [Datum.quotient]
    rw [if_neg hn, Nat.shiftLeft_eq, ← hT, ← hX]
  have e2 : (Datum.number s k1 l1).quotient 54 (.number t k2 l2) = some (.number (s ^^ t) (2 * (Y / n) + (Y % n != 0).toNat) (i - j - T - 30)) := by
    have hk2 : k2 ≠ 0 := by rw [v5]; exact Nat.mul_ne_zero hn (Nat.ne_of_gt (Nat.two_pow_pos _))
    simp only [Datum.quotient]
    rw [if_neg hk2, Nat.shiftLeft_eq]
    obtain ⟨more, hmore⟩ : ∃ more, more = 54 + k2.log2 - k1.log2 := ⟨_, rfl⟩
    rw [← hmore]
    have hmm : more = 54 + (n.log2 + (j - l2).toNat) - (m.log2 + (i - l1).toNat) := by rw [hmore, w5, v5, log2_mul_pow _ hm, log2_mul_pow _ hn]
    have eY : k1 * 2 ^ more = Y * 2 ^ (j - l2).toNat := by
      rw [w5, hY, hX, Nat.mul_assoc, Nat.mul_assoc, Nat.mul_assoc, ← Nat.pow_add, ← Nat.pow_add, ← Nat.pow_add]
      congr 2; omega
    have hp : 0 < 2 ^ (j - l2).toNat := Nat.two_pow_pos _
    have eb : ∀ a : Nat, (a * 2 ^ (j - l2).toNat != 0) = (a != 0) := by
      intro a
      rw [Bool.eq_iff_iff, bne_iff_ne, bne_iff_ne]
      constructor
      · rintro h rfl; exact h (Nat.zero_mul _)
      · intro h; exact Nat.mul_ne_zero h (by omega)
    rw [eY, v5, Nat.mul_div_mul_right _ _ hp, Nat.mul_mod_mul_right, eb]
    congr 2
    omega
  have hsame : FloatKind.f32.format.nearest (s ^^ t) (2 * (Y / n) + (Y % n != 0).toNat) (i - j - T - 30) = FloatKind.f32.format.nearest (s ^^ t) (2 * (X / n) + (X % n != 0).toNat) (i - j - T - 1) := by
    have z1 : 2 * (X / n) + (X % n != 0).toNat ≠ 0 := by intro h; rw [h] at n25; simp at n25
    have z2 : 2 * (Y / n) + (Y % n != 0).toNat ≠ 0 := by intro h; rw [h] at n54; simp at n54
    have c1 := nearest_rhe FloatKind.f32.format (s ^^ t) (i - j - T - 1) (i - j - T - 1 + (l - 22)) z1 (by rw [f32_least, f32_frac, n25]; omega) (by omega)
    have c2 := nearest_rhe FloatKind.f32.format (s ^^ t) (i - j - T - 30) (i - j - T - 1 + (l - 22)) z2 (by rw [f32_least, f32_frac, n54]; omega) (by omega)
    rw [show (i - j - (T : Int) - 1 + ((l : Int) - 22) - (i - j - T - 1)).toNat = (l - 24) + 2 by omega, rhe_sticky n0] at c1
    rw [show (i - j - (T : Int) - 1 + ((l : Int) - 22) - (i - j - T - 30)).toNat = (l + 5) + 2 by omega, rhe_sticky n0] at c2
    have e5 : n * 2 ^ (l + 5 + 1) = n * 2 ^ (l - 24 + 1) * 2 ^ 29 := by rw [Nat.mul_assoc, ← Nat.pow_add]; congr 2; omega
    have e6 : rhe Y (n * 2 ^ (l + 5 + 1)) = rhe X (n * 2 ^ (l - 24 + 1)) := by rw [e5, hY, rhe_mul _ _ _ (Nat.two_pow_pos 29)]
    rw [c1, c2, e6]
  have hlong : floatToFloatBits .f64 (FloatKind.f64.format.nearest (s ^^ t) (2 * (Y / n) + (Y % n != 0).toNat) (i - j - T - 30)) .f32 = some (FloatKind.f32.format.nearest (s ^^ t) (2 * (Y / n) + (Y % n != 0).toNat) (i - j - T - 30)) := by
    refine dbl_long (s ^^ t) (by omega) (by rw [n54]; omega) (by rw [n54]; omega) ?_
    have hbig : 4503599627370496 ≤ rhe (2 * (Y / n) + (Y % n != 0).toNat) (2 ^ (l + 29 + 1 - 52)) := by
      refine rhe_ge (Nat.two_pow_pos _) ?_
      have hz : 2 * (Y / n) + (Y % n != 0).toNat ≠ 0 := by intro h; rw [h] at n54; simp at n54
      have := Nat.log2_self_le hz
      rw [n54] at this
      rw [show (4503599627370496 : Nat) = 2 ^ 52 by rfl, ← Nat.pow_add, show 52 + (l + 29 + 1 - 52) = l + 29 + 1 by omega]
      exact this
    rw [n54]
    rw [show l + 29 + 1 - 52 = (l - 24) + 2 by omega] at hbig ⊢
    have e6 : (2 : Nat) ^ (l - 24 + 2) * (2 * 268435456) = 2 ^ ((l - 24 + 29) + 2) := by rw [show (2 * 268435456 : Nat) = 2 ^ 29 by rfl, ← Nat.pow_add]
    rw [e6, rhe_sticky n0, rhe_sticky n0]
    rw [rhe_sticky n0] at hbig
    have e7 : n * 2 ^ (l - 24 + 29 + 1) = n * 2 ^ (l - 24 + 1) * (2 * 268435456) := by rw [show (2 * 268435456 : Nat) = 2 ^ 29 by rfl, Nat.mul_assoc, ← Nat.pow_add]
    rw [e7]
    have hYm : Y = m * 2 ^ (T + 29) := by rw [hY, hX, Nat.mul_assoc, ← Nat.pow_add]
    refine rhe_twice (Nat.mul_pos n0 (Nat.two_pow_pos _)) (by omega) ?_
    rw [hYm] at hbig ⊢
    exact quo_tie m1 n0 n1 rfl hbig
  have hf : floatBits .quo .f32 x y = some (FloatKind.f32.format.nearest (s ^^ t) (2 * (X / n) + (X % n != 0).toNat) (i - j - T - 1)) := by rw [bits_quo, ex, ey, e1]; rfl
  obtain ⟨k', l', hr⟩ := finite_write (s ^^ t) (2 * (X / n) + (X % n != 0).toNat) (i - j - T - 1) (by right; rw [n25]; omega)
  have hF : fop .quo x y = FloatKind.f32.format.nearest (s ^^ t) (2 * (X / n) + (X % n != 0).toNat) (i - j - T - 1) := by
    unfold fop
    rw [hf]
    exact canon_of_num (by rw [isNaN_iff, hr]; rfl)
  rw [hF]
  refine ⟨⟨r1, r2, _, w1, v1, ?_, hlong.trans (by rw [hsame])⟩, ⟨_, _, _, hr, ?_⟩, k', l', hr⟩
  · rw [bits64_quo, w2, v2, e2]; rfl
  · have hz : 2 * (X / n) + (X % n != 0).toNat ≠ 0 := by intro h; rw [h] at n25; simp at n25
    have hw := write_bound FloatKind.f32.format f32_rungs hz hr
    rcases hw with h | h
    · exact .inl h
    · right; rw [n25] at h; omega
end

section
open Go.RowKit Ieee

theorem ofInt_log {n : Nat} (h1 : 1 ≤ n) (h2 : n < 8388608) : ∃ m p, rd (floatOfInt .f32 (n : Int)) = .number false m p ∧ m ≠ 0 ∧ p + (m.log2 : Int) = n.log2 := by
  obtain ⟨⟨s, m, p, hr, hv⟩, m', p', hr', _⟩ := ofInt_val (n := (n : Int)) (by omega) (by omega)
  rw [decide_eq_false (by omega)] at hr'
  rw [hr] at hr'
  injection hr' with e1 e2 e3
  subst e1
  have e := hv (min p 0) (by omega) (by omega)
  rw [signed_pow, if_neg (by simp)] at e
  have en : m * 2 ^ (p - min p 0).toNat = n * 2 ^ (-min p 0).toNat := by exact_mod_cast e
  have hm : m ≠ 0 := by
    rintro rfl
    rw [Nat.zero_mul] at en
    have : n * 2 ^ (-min p 0).toNat ≠ 0 := Nat.mul_ne_zero (by omega) (Nat.ne_of_gt (Nat.two_pow_pos _))
    omega
  have hl : (m * 2 ^ (p - min p 0).toNat).log2 = (n * 2 ^ (-min p 0).toNat).log2 := by rw [en]
  rw [log2_mul_pow _ hm, log2_mul_pow _ (by omega)] at hl
  exact ⟨m, p, hr, hm, by omega⟩
/-- A quotient of two small whole numbers by way of doubles. -/
theorem share_dbl {a b : Nat} (a1 : 1 ≤ a) (a2 : a < 8388608) (b1 : 1 ≤ b) (b2 : b < 8388608) :
    (∃ r1 r2 r3, floatToFloatBits .f32 (floatOfInt .f32 (a : Int)) .f64 = some r1 ∧ floatToFloatBits .f32 (floatOfInt .f32 (b : Int)) .f64 = some r2 ∧ floatBits .quo .f64 r1 r2 = some r3 ∧ floatToFloatBits .f64 r3 .f32 = some (fop .quo (floatOfInt .f32 (a : Int)) (floatOfInt .f32 (b : Int)))) ∧
    ∃ k l, rd (fop .quo (floatOfInt .f32 (a : Int)) (floatOfInt .f32 (b : Int))) = .number false k l := by
  obtain ⟨m, i, ea, hm, la⟩ := ofInt_log a1 a2
  obtain ⟨n, j, eb, hn, lb⟩ := ofInt_log b1 b2
  have l1 : a.log2 ≤ 22 := log2_le (by omega)
  have l2 : b.log2 ≤ 22 := log2_le (by omega)
  obtain ⟨h1, _, h3⟩ := quo_dbl ea eb hm hn (by omega) (by omega)
  exact ⟨h1, h3⟩
theorem fop_lt (op : BinOp) {x y : Nat} {s m i : _} (h : rd (fop op x y) = .number s m i) (hop : op = .add ∨ op = .sub ∨ op = .mul ∨ op = .quo) : fop op x y < 4294967296 := by
  have hw : ∀ d : Datum, d.isNaN = false → FloatKind.f32.format.write d < 4294967296 := by
    intro d hd
    have hs : FloatKind.f32.format.signWeight = 2147483648 := by decide
    have hi := f32_inf
    have word_lt : ∀ (s : Bool) (r : Nat), r ≤ FloatKind.f32.format.infRung → FloatKind.f32.format.word s r < 4294967296 := by
      intro s r hr
      unfold Format.word
      rw [hs]
      rw [hi] at hr
      split <;> omega
    cases d with
    | nan s f => simp [Datum.isNaN] at hd
    | infinity s => exact word_lt s _ (Nat.le_refl _)
    | number s m p =>
      show FloatKind.f32.format.nearest s m p < _
      unfold Format.nearest
      split
      · exact word_lt s 0 (Nat.zero_le _)
      · exact word_lt s _ (Nat.min_le_right _ _)
  have hc : ∀ b, b < 4294967296 → canon b < 4294967296 := by
    intro b hb
    unfold canon
    split
    · decide
    · exact hb
  unfold fop
  cases hf : floatBits op .f32 x y with
  | none => decide
  | some r =>
    show canon r < _
    refine hc r ?_
    have : ∃ d : Datum, d.isNaN = false ∧ r = FloatKind.f32.format.write d := by
      rcases hop with rfl | rfl | rfl | rfl
      · rw [bits_add] at hf; obtain ⟨d, h1, h2⟩ := map_some hf; exact ⟨d, Bool.eq_false_iff.2 fun h => sum_not_nan h1 (by cases d <;> simp_all [Datum.isNaN]), h2⟩
      · rw [bits_sub] at hf; obtain ⟨d, h1, h2⟩ := map_some hf; exact ⟨d, Bool.eq_false_iff.2 fun h => sum_not_nan h1 (by cases d <;> simp_all [Datum.isNaN]), h2⟩
      · rw [bits_mul] at hf; obtain ⟨d, h1, h2⟩ := map_some hf; exact ⟨d, Bool.eq_false_iff.2 fun h => product_not_nan h1 (by cases d <;> simp_all [Datum.isNaN]), h2⟩
      · rw [bits_quo] at hf; obtain ⟨d, h1, h2⟩ := map_some hf; exact ⟨d, Bool.eq_false_iff.2 fun h => quotient_not_nan h1 (by cases d <;> simp_all [Datum.isNaN]), h2⟩
    obtain ⟨d, h1, h2⟩ := this
    rw [h2]; exact hw d h1
/-- What a positive word stands for, in units of the least place. -/
def unitsOf (r : Nat) : Nat := if r < 8388608 then r else (8388608 + r % 8388608) * 2 ^ (r / 8388608 - 1)
theorem rd_units {r : Nat} (h : r < 4294967296) {m : Nat} {i : Int} (hr : rd r = .number false m i) : r < 2147483648 ∧ -149 ≤ i ∧ m * 2 ^ (i + 149).toNat = unitsOf r := by
  have hs : FloatKind.f32.format.signWeight = 2147483648 := by decide
  unfold rd Format.read at hr
  rw [hs, f32_binade, f32_inf, f32_least] at hr
  simp only at hr
  have hlt : r < 2147483648 := by
    rcases Nat.lt_or_ge r 2147483648 with h1 | h1
    · exact h1
    · exfalso
      have : (r / 2147483648 % 2 == 1) = true := by
        have : r / 2147483648 = 1 := by omega
        rw [this]; rfl
      rw [this] at hr
      split at hr
      · simp at hr
      · split at hr
        · simp at hr
        · split at hr <;> cases hr
  rw [Nat.mod_eq_of_lt hlt] at hr
  refine ⟨hlt, ?_⟩
  unfold unitsOf
  split at hr
  · rename_i c
    rw [if_pos c]
    injection hr with e1 e2 e3
    subst e2; subst e3
    exact ⟨by omega, by simp⟩
  · rename_i c
    rw [if_neg c]
    split at hr
    · injection hr with e1 e2 e3
      subst e2; subst e3
      refine ⟨by omega, ?_⟩
      congr 2; omega
    · split at hr <;> cases hr
theorem units_lt {a b : Nat} (h : a < b) : unitsOf a < unitsOf b := by
  unfold unitsOf
  by_cases hb : b < 8388608
  · rw [if_pos hb, if_pos (by omega)]; exact h
  · rw [if_neg hb]
    have hp : ∀ k, 0 < 2 ^ k := fun k => Nat.two_pow_pos k
    by_cases ha : a < 8388608
    · rw [if_pos ha]
      have := Nat.le_mul_of_pos_right (8388608 + b % 8388608) (hp (b / 8388608 - 1))
      omega
    · rw [if_neg ha]
      have hle : a / 8388608 ≤ b / 8388608 := Nat.div_le_div_right (Nat.le_of_lt h)
      rcases Nat.lt_or_eq_of_le hle with hlt | he
      · have e : 2 * 2 ^ (a / 8388608 - 1) ≤ 2 ^ (b / 8388608 - 1) := by
          rw [← Nat.pow_succ']
          exact Nat.pow_le_pow_right (by omega) (by have : 1 ≤ a / 8388608 := by omega
                                                    omega)
        have h1 : (8388608 + a % 8388608) * 2 ^ (a / 8388608 - 1) < 16777216 * 2 ^ (a / 8388608 - 1) := Nat.mul_lt_mul_of_pos_right (by omega) (hp _)
        have h2 : 8388608 * 2 ^ (b / 8388608 - 1) ≤ (8388608 + b % 8388608) * 2 ^ (b / 8388608 - 1) := Nat.mul_le_mul_right _ (by omega)
        omega
      · rw [he]
        exact Nat.mul_lt_mul_of_pos_right (by omega) (hp _)
/-- Positive words that are equal as numbers are the same word. -/
theorem pos_inj {a b : Nat} (ha : a < 4294967296) (hb : b < 4294967296) {m n : Nat} {i j : Int} (ra : rd a = .number false m i) (rb : rd b = .number false n j) (h : (rd a).order (rd b) = some .eq) : a = b := by
  obtain ⟨_, a1, a2⟩ := rd_units ha ra
  obtain ⟨_, b1, b2⟩ := rd_units hb rb
  rw [ra, rb] at h
  simp only [Datum.order, Option.some.injEq] at h
  have he := Int.compare_eq_eq.1 h
  rw [signed_pow, signed_pow, if_neg (by simp), if_neg (by simp)] at he
  have he2 : m * 2 ^ (i - min i j).toNat = n * 2 ^ (j - min i j).toNat := by exact_mod_cast he
  have e3 : m * 2 ^ (i + 149).toNat = n * 2 ^ (j + 149).toNat := by
    rw [show (i + 149).toNat = (i - min i j).toNat + (min i j + 149).toNat by omega, show (j + 149).toNat = (j - min i j).toNat + (min i j + 149).toNat by omega, Nat.pow_add, Nat.pow_add, ← Nat.mul_assoc, ← Nat.mul_assoc, he2]
  rw [a2, b2] at e3
  rcases Nat.lt_trichotomy a b with h1 | h1 | h1
  · have := units_lt h1; omega
  · exact h1
  · have := units_lt h1; omega
end

section
open Go.RowKit Ieee

/-- A quotient of two numbers of 24 digits, rounded to 53 digits, ends in no 28 noughts, but where it is exact. -/
theorem quo_tie2 {a b t B : Nat} (ha : a < 16777216) (hb0 : 0 < b) (hb : b < 16777216) {e : Nat} (hB : B = b * 2 ^ e) (hbig : 4503599627370496 ≤ rhe (a * 2 ^ t) B) :
    a * 2 ^ t % B = 0 ∨ rhe (a * 2 ^ t) B % 268435456 ≠ 0 := by
  rcases Nat.eq_zero_or_pos (a * 2 ^ t % B) with h0 | h0
  · exact .inl h0
  right
  intro hN
  have hB0 : 0 < B := by rw [hB]; exact Nat.mul_pos hb0 (Nat.two_pow_pos e)
  obtain ⟨near1, near2⟩ := rhe_near (X := a * 2 ^ t) (P := B) hB0
  have hex : rhe (a * 2 ^ t) B * B ≠ a * 2 ^ t := by
    intro h
    rw [← h, Nat.mul_mod_left] at h0
    omega
  generalize rhe (a * 2 ^ t) B = N at hN near1 near2 hbig hex
  obtain ⟨u, hu⟩ : ∃ u, N = 268435456 * u := ⟨N / 268435456, by omega⟩
  have hNB : 4503599627370496 * B ≤ N * B := Nat.mul_le_mul_right _ hbig
  have hp : 0 < 2 ^ e := Nat.two_pow_pos e
  have heB : 2 ^ e ≤ B := by rw [hB]; exact Nat.le_mul_of_pos_left _ hb0
  rcases Nat.lt_or_ge t (e + 28) with h | h
  · have h1 : a * 2 ^ t ≤ 16777215 * (2 ^ e * 134217728) := Nat.mul_le_mul (by omega) (by rw [show (134217728 : Nat) = 2 ^ 27 by rfl, ← Nat.pow_add]; exact Nat.pow_le_pow_right (by omega) (by omega))
    generalize 2 ^ e = p at *
    generalize a * 2 ^ t = X at *
    generalize N * B = Y at *
    omega
  · obtain ⟨v, hv⟩ : ∃ v, v = a * 2 ^ (t - (e + 28)) := ⟨_, rfl⟩
    have e1 : a * 2 ^ t = 268435456 * (v * 2 ^ e) := by
      rw [hv, Nat.mul_assoc, ← Nat.pow_add, show (268435456 : Nat) = 2 ^ 28 by rfl, Nat.mul_left_comm, ← Nat.pow_add]
      congr 2; omega
    have e2 : N * B = 268435456 * (u * b * 2 ^ e) := by rw [hu, hB, Nat.mul_assoc, Nat.mul_assoc u]
    rw [e1, e2] at near1 near2 hex
    have hB2 : B < 16777216 * 2 ^ e := by rw [hB]; exact Nat.mul_lt_mul_of_pos_right hb hp
    rcases Nat.lt_trichotomy v (u * b) with h1 | h1 | h1
    · have : (v + 1) * 2 ^ e ≤ u * b * 2 ^ e := Nat.mul_le_mul_right _ h1
      rw [Nat.add_mul] at this
      generalize 2 ^ e = p at *
      generalize v * p = X at *
      generalize u * b * p = Y at *
      omega
    · exact hex (by rw [h1])
    · have : (u * b + 1) * 2 ^ e ≤ v * 2 ^ e := Nat.mul_le_mul_right _ h1
      rw [Nat.add_mul] at this
      generalize 2 ^ e = p at *
      generalize v * p = X at *
      generalize u * b * p = Y at *
      omega

theorem narrow_fin {x : Nat} {s : Bool} {k : Nat} {l : Int} (h : FloatKind.f64.format.read x = .number s k l) (hf : ∃ t k' l', FloatKind.f32.format.read (FloatKind.f32.format.nearest s k l) = .number t k' l') : floatToFloatBits .f64 x .f32 = some (FloatKind.f32.format.nearest s k l) := by
  obtain ⟨t, k', l', hr⟩ := hf
  unfold floatToFloatBits
  have h' : FloatKind.f64.decode x = .number s k l := h
  rw [if_neg (by decide), h']
  have hr2 : FloatKind.f32.decode (FloatKind.f32.encode (.number s k l)) = .number t k' l' := hr
  simp only [hr2]
  rfl

/-- Rounded twice is rounded once: a longer number, also a very small one. -/
theorem dbl_any (s : Bool) {m : Nat} {p last : Int} (hL : 53 ≤ m.log2) (h1 : -900 ≤ p + m.log2) (h2 : p + m.log2 ≤ 900) (hlast : last = max (p + m.log2 - 23) (-149))
    (h3 : rhe (rhe m (2 ^ (m.log2 - 52))) (2 ^ (last - (p + m.log2 - 52)).toNat) = rhe m (2 ^ (last - p).toNat)) (hf : ∃ t k l, FloatKind.f32.format.read (FloatKind.f32.format.nearest s m p) = .number t k l) :
    floatToFloatBits .f64 (FloatKind.f64.format.nearest s m p) .f32 = some (FloatKind.f32.format.nearest s m p) := by
  obtain ⟨k, l, hr, hk, hg⟩ := dbl_read s (p := p) hL (by omega) (by omega)
  have hm : m ≠ 0 := by rintro rfl; simp at hL
  obtain ⟨L, hLe⟩ : ∃ L, L = m.log2 := ⟨_, rfl⟩
  have e := nearest_rhe FloatKind.f32.format s p last hm (by rw [f32_least, f32_frac]; exact hlast) (by omega)
  have hlow : 2 ^ L ≤ m := by rw [hLe]; exact Nat.log2_self_le hm
  have hup : m < 2 ^ (L + 1) := by rw [hLe]; exact Nat.lt_log2_self
  have key : FloatKind.f32.format.nearest s k l = FloatKind.f32.format.nearest s m p := by
    rw [hg]
    rw [← hLe] at hL h1 h2 h3 hlast ⊢
    rw [← h3] at e
    have hP : 0 < 2 ^ (L - 52) := Nat.two_pow_pos _
    have hN1 : 2 ^ 52 ≤ rhe m (2 ^ (L - 52)) := rhe_ge hP (by rw [← Nat.pow_add, show 52 + (L - 52) = L by omega]; exact hlow)
    have hN2 : rhe m (2 ^ (L - 52)) ≤ 2 ^ 53 := rhe_le hP (by rw [← Nat.pow_add, show 53 + (L - 52) = L + 1 by omega]; omega)
    generalize rhe m (2 ^ (L - 52)) = N at *
    have c52 : (2 : Nat) ^ 52 = 4503599627370496 := rfl
    have c53 : (2 : Nat) ^ 53 = 9007199254740992 := rfl
    rw [e]
    rcases Nat.lt_or_ge N (2 ^ 53) with hN | hN
    · have hl := log2_is hN1 hN
      exact nearest_rhe FloatKind.f32.format s (m := N) (p + L - 52) last (by omega) (by rw [f32_least, f32_frac, hl]; omega) (by omega)
    · have hNe : N = 2 ^ 53 := by omega
      have hl : N.log2 = 53 := by rw [hNe]; decide
      obtain ⟨last2, hlast2⟩ : ∃ z, z = max (p + (L : Int) - 22) (-149) := ⟨_, rfl⟩
      have e2 := nearest_rhe FloatKind.f32.format s (m := N) (p + L - 52) last2 (by omega) (by rw [f32_least, f32_frac, hl]; omega) (by omega)
      rw [e2]
      rcases (by omega : last2 = last ∨ (last2 = last + 1 ∧ last = p + L - 23)) with h | ⟨h, h'⟩
      · rw [h]
      · rw [f32_least, f32_binade, f32_inf, hNe, show (last2 - (p + L - 52)).toNat = 30 by omega, show (last - (p + L - 52)).toNat = 29 by omega, show (last2 - -149).toNat = (last - -149).toNat + 1 by omega]
        rw [show rhe (2 ^ 53) (2 ^ 30) = 8388608 by decide +kernel, show rhe (2 ^ 53) (2 ^ 29) = 16777216 by decide +kernel]
        rw [show ((last - -149).toNat + 1) * 8388608 + 8388608 = (last - -149).toNat * 8388608 + 16777216 by omega]
  rw [narrow_fin hr (by rw [key]; exact hf), key]

/-- A quotient by way of doubles is the quotient, wherever it is finite. -/
theorem quo_any {x y : Nat} {s t : Bool} {m n : Nat} {i j : Int} (ex : rd x = .number s m i) (ey : rd y = .number t n j) (hm : m ≠ 0) (hn : n ≠ 0)
    (hfin : ∀ r, floatBits .quo .f32 x y = some r → ∃ u k l, rd r = .number u k l) :
    ∃ r1 r2 r3, floatToFloatBits .f32 x .f64 = some r1 ∧ floatToFloatBits .f32 y .f64 = some r2 ∧ floatBits .quo .f64 r1 r2 = some r3 ∧ floatToFloatBits .f64 r3 .f32 = some (fop .quo x y) := by
  obtain ⟨m1, m2, _⟩ := read_bd ex
  obtain ⟨n1, n2, _⟩ := read_bd ey
  have lm := log2_small m1
  have ln := log2_small n1
  obtain ⟨r1, k1, l1, w1, w2, w3, w4, w5⟩ := widen x s m i ex
  obtain ⟨r2, k2, l2, v1, v2, v3, v4, v5⟩ := widen y t n j ey
  have hk1 : k1.log2 ≤ 52 := log2_le (read64_bd w2)
  rw [w5, log2_mul_pow _ hm] at hk1
  obtain ⟨T, hT⟩ : ∃ T, T = 25 + n.log2 - m.log2 := ⟨_, rfl⟩
  obtain ⟨X, hX⟩ : ∃ X, X = m * 2 ^ T := ⟨_, rfl⟩
  have n0 : 0 < n := by omega
  have pm1 : 2 ^ m.log2 ≤ m := Nat.log2_self_le hm
  have pm2 : m < 2 ^ (m.log2 + 1) := Nat.lt_log2_self
  have pn1 : 2 ^ n.log2 ≤ n := Nat.log2_self_le hn
  have pn2 : n < 2 ^ (n.log2 + 1) := Nat.lt_log2_self
  have x1 : 2 ^ (25 + n.log2) ≤ X := by
    rw [hX, show 25 + n.log2 = m.log2 + T by omega, Nat.pow_add]
    exact Nat.mul_le_mul_right _ pm1
  have x2 : X < 2 ^ (26 + n.log2) := by
    rw [hX, show 26 + n.log2 = (m.log2 + 1) + T by omega, Nat.pow_add]
    exact Nat.mul_lt_mul_of_pos_right pm2 (Nat.two_pow_pos _)
  obtain ⟨l, hl, hl1, hl2⟩ : ∃ l, (l = 24 ∨ l = 25) ∧ 2 ^ l * n ≤ X ∧ X < 2 ^ (l + 1) * n := by
    have g1 : 2 ^ 24 * n ≤ X := by
      have : 2 ^ 24 * n ≤ 2 ^ 24 * 2 ^ (n.log2 + 1) := Nat.mul_le_mul_left _ (by omega)
      rw [← Nat.pow_add, show 24 + (n.log2 + 1) = 25 + n.log2 by omega] at this
      omega
    have g2 : X < 2 ^ 26 * n := by
      have : 2 ^ 26 * 2 ^ n.log2 ≤ 2 ^ 26 * n := Nat.mul_le_mul_left _ pn1
      rw [← Nat.pow_add] at this
      omega
    rcases Nat.lt_or_ge X (2 ^ 25 * n) with h | h
    · exact ⟨24, .inl rfl, g1, h⟩
    · exact ⟨25, .inr rfl, h, g2⟩
  have n25 := quo_log n0 hl1 hl2 (X % n != 0)
  obtain ⟨Y, hY⟩ : ∃ Y, Y = X * 2 ^ 29 := ⟨_, rfl⟩
  have n54 := quo_log (X := Y) (l := l + 29) n0 (by rw [hY, Nat.pow_add, Nat.mul_right_comm]; exact Nat.mul_le_mul_right _ hl1) (by rw [hY, show l + 29 + 1 = (l + 1) + 29 by omega, Nat.pow_add, Nat.mul_right_comm]; exact Nat.mul_lt_mul_of_pos_right hl2 (Nat.two_pow_pos _)) (Y % n != 0)
  have e1 : (Datum.number s m i).quotient 25 (.number t n j) = some (.number (s ^^ t) (2 * (X / n) + (X % n != 0).toNat) (i - j - T - 1)) := by
    simp only [Datum.quotient]
    rw [if_neg hn, Nat.shiftLeft_eq, ← hT, ← hX]
  have e2 : (Datum.number s k1 l1).quotient 54 (.number t k2 l2) = some (.number (s ^^ t) (2 * (Y / n) + (Y % n != 0).toNat) (i - j - T - 30)) := by
    have hk2 : k2 ≠ 0 := by rw [v5]; exact Nat.mul_ne_zero hn (Nat.ne_of_gt (Nat.two_pow_pos _))
    simp only [Datum.quotient]
    rw [if_neg hk2, Nat.shiftLeft_eq]
    obtain ⟨more, hmore⟩ : ∃ more, more = 54 + k2.log2 - k1.log2 := ⟨_, rfl⟩
    rw [← hmore]
    have hmm : more = 54 + (n.log2 + (j - l2).toNat) - (m.log2 + (i - l1).toNat) := by rw [hmore, w5, v5, log2_mul_pow _ hm, log2_mul_pow _ hn]
    have eY : k1 * 2 ^ more = Y * 2 ^ (j - l2).toNat := by
      rw [w5, hY, hX, Nat.mul_assoc, Nat.mul_assoc, Nat.mul_assoc, ← Nat.pow_add, ← Nat.pow_add, ← Nat.pow_add]
      congr 2; omega
    have hp : 0 < 2 ^ (j - l2).toNat := Nat.two_pow_pos _
    have eb : ∀ a : Nat, (a * 2 ^ (j - l2).toNat != 0) = (a != 0) := by
      intro a
      rw [Bool.eq_iff_iff, bne_iff_ne, bne_iff_ne]
      constructor
      · rintro h rfl; exact h (Nat.zero_mul _)
      · intro h; exact Nat.mul_ne_zero h (by omega)
    rw [eY, v5, Nat.mul_div_mul_right _ _ hp, Nat.mul_mod_mul_right, eb]
    congr 2
    omega
  obtain ⟨last, hlast⟩ : ∃ z, z = max (i - j - (T : Int) - 1 + ((l : Int) - 22)) (-149) := ⟨_, rfl⟩
  obtain ⟨d, hd⟩ : ∃ d : Nat, last = i - j - (T : Int) - 1 + (l - 24 : Nat) + 2 + (d : Int) := ⟨(last - (i - j - (T : Int) - 1 + ((l : Int) - 22))).toNat, by omega⟩
  have hsame : FloatKind.f32.format.nearest (s ^^ t) (2 * (Y / n) + (Y % n != 0).toNat) (i - j - T - 30) = FloatKind.f32.format.nearest (s ^^ t) (2 * (X / n) + (X % n != 0).toNat) (i - j - T - 1) := by
    have z1 : 2 * (X / n) + (X % n != 0).toNat ≠ 0 := by intro h; rw [h] at n25; simp at n25
    have z2 : 2 * (Y / n) + (Y % n != 0).toNat ≠ 0 := by intro h; rw [h] at n54; simp at n54
    have c1 := nearest_rhe FloatKind.f32.format (s ^^ t) (i - j - T - 1) last z1 (by rw [f32_least, f32_frac, n25]; omega) (by omega)
    have c2 := nearest_rhe FloatKind.f32.format (s ^^ t) (i - j - T - 30) last z2 (by rw [f32_least, f32_frac, n54]; omega) (by omega)
    rw [show (last - (i - j - (T : Int) - 1)).toNat = (l - 24 + d) + 2 by omega, rhe_sticky n0] at c1
    rw [show (last - (i - j - (T : Int) - 30)).toNat = (l - 24 + d + 29) + 2 by omega, rhe_sticky n0] at c2
    have e5 : n * 2 ^ (l - 24 + d + 29 + 1) = n * 2 ^ (l - 24 + d + 1) * 2 ^ 29 := by rw [Nat.mul_assoc, ← Nat.pow_add]
    have e6 : rhe Y (n * 2 ^ (l - 24 + d + 29 + 1)) = rhe X (n * 2 ^ (l - 24 + d + 1)) := by rw [e5, hY, rhe_mul _ _ _ (Nat.two_pow_pos 29)]
    rw [c1, c2, e6]
  have hf : floatBits .quo .f32 x y = some (FloatKind.f32.format.nearest (s ^^ t) (2 * (X / n) + (X % n != 0).toNat) (i - j - T - 1)) := by rw [bits_quo, ex, ey, e1]; rfl
  have hr := hfin _ hf
  have hlong : floatToFloatBits .f64 (FloatKind.f64.format.nearest (s ^^ t) (2 * (Y / n) + (Y % n != 0).toNat) (i - j - T - 30)) .f32 = some (FloatKind.f32.format.nearest (s ^^ t) (2 * (Y / n) + (Y % n != 0).toNat) (i - j - T - 30)) := by
    refine dbl_any (s ^^ t) (last := last) (by omega) (by rw [n54]; omega) (by rw [n54]; omega) (by rw [n54]; omega) ?_ (by rw [hsame]; exact hr)
    have hbig : 4503599627370496 ≤ rhe (2 * (Y / n) + (Y % n != 0).toNat) (2 ^ (l + 29 + 1 - 52)) := by
      refine rhe_ge (Nat.two_pow_pos _) ?_
      have hz : 2 * (Y / n) + (Y % n != 0).toNat ≠ 0 := by intro h; rw [h] at n54; simp at n54
      have := Nat.log2_self_le hz
      rw [n54] at this
      rw [show (4503599627370496 : Nat) = 2 ^ 52 by rfl, ← Nat.pow_add, show 52 + (l + 29 + 1 - 52) = l + 29 + 1 by omega]
      exact this
    rw [n54]
    rw [show l + 29 + 1 - 52 = (l - 24) + 2 by omega] at hbig ⊢
    rw [show (last - (i - j - (T : Int) - 30 + ((l + 29 + 1 : Nat) : Int) - 52)).toNat = (d + 28) + 1 by omega, show (last - (i - j - (T : Int) - 30)).toNat = ((l - 24) + d + 29) + 2 by omega]
    rw [rhe_sticky n0, rhe_sticky n0]
    rw [rhe_sticky n0] at hbig
    have e7 : n * 2 ^ (l - 24 + d + 29 + 1) = n * 2 ^ (l - 24 + 1) * (2 * 2 ^ (d + 28)) := by rw [Nat.mul_assoc, show 2 * 2 ^ (d + 28) = 2 ^ (d + 29) by rw [Nat.pow_succ 2 (d + 28), Nat.mul_comm], ← Nat.pow_add]; congr 2; omega
    rw [e7, show (2 : Nat) ^ (d + 28 + 1) = 2 * 2 ^ (d + 28) by rw [Nat.pow_succ, Nat.mul_comm]]
    have hYm : Y = m * 2 ^ (T + 29) := by rw [hY, hX, Nat.mul_assoc, ← Nat.pow_add]
    refine rhe_twice (Nat.mul_pos n0 (Nat.two_pow_pos _)) (Nat.two_pow_pos _) ?_
    rw [hYm] at hbig ⊢
    rcases quo_tie2 m1 n0 n1 rfl hbig with h | h
    · exact .inl h
    · right
      intro hh
      apply h
      have hdv : (268435456 : Nat) ∣ 2 ^ (d + 28) := by rw [Nat.pow_add, show (2 : Nat) ^ 28 = 268435456 by rfl]; exact Nat.dvd_mul_left _ _
      have h5 := Nat.div_add_mod (rhe (m * 2 ^ (T + 29)) (n * 2 ^ (l - 24 + 1))) (2 * 2 ^ (d + 28))
      rw [hh] at h5
      rw [← h5]
      refine Nat.mod_eq_zero_of_dvd (Nat.dvd_add ?_ hdv)
      exact Nat.dvd_trans (Nat.dvd_trans hdv (Nat.dvd_mul_left _ 2)) (Nat.dvd_mul_right _ _)
  have hF : fop .quo x y = FloatKind.f32.format.nearest (s ^^ t) (2 * (X / n) + (X % n != 0).toNat) (i - j - T - 1) := by
    unfold fop
    rw [hf]
    obtain ⟨u, k, l, h⟩ := hr
    exact canon_of_num (by rw [isNaN_iff, h]; rfl)
  refine ⟨r1, r2, FloatKind.f64.format.nearest (s ^^ t) (2 * (Y / n) + (Y % n != 0).toNat) (i - j - T - 30), w1, v1, ?_, ?_⟩
  · rw [bits64_quo, w2, v2, e2]; rfl
  · rw [hlong, hsame, hF]

/-- A quotient by a whole number from 1 on is finite. -/
theorem quo_fin {x n : Nat} {s : Bool} {m : Nat} {i : Int} (ex : rd x = .number s m i) (hm : m ≠ 0) (h1 : 1 ≤ n) (h2 : n < 8388608) : ∀ r, floatBits .quo .f32 x (floatOfInt .f32 (n : Int)) = some r → ∃ u k l, rd r = .number u k l := by
  intro r hr
  obtain ⟨m1, m2, m3⟩ := read_bd ex
  have lm := log2_small m1
  have pm2 : m < 2 ^ (m.log2 + 1) := Nat.lt_log2_self
  rw [bits_quo, ex] at hr
  by_cases hn1 : n = 1
  · subst hn1
    rw [show rd (floatOfInt .f32 ((1 : Nat) : Int)) = .number false 8388608 (-23) by decide] at hr
    simp only [Datum.quotient] at hr
    rw [if_neg (by decide), Nat.shiftLeft_eq, show Nat.log2 8388608 = 23 by decide, show (8388608 : Nat) = 2 ^ 23 by rfl] at hr
    have e1 : m * 2 ^ (25 + 23 - m.log2) = m * 2 ^ (25 - m.log2) * 2 ^ 23 := by rw [Nat.mul_assoc, ← Nat.pow_add]; congr 2; omega
    rw [e1, Nat.mul_div_cancel _ (Nat.two_pow_pos _), Nat.mul_mod_left] at hr
    simp only [Option.map_some, Option.some.injEq] at hr
    have e2 : 2 * (m * 2 ^ (25 - m.log2)) + (0 != 0).toNat = m * 2 ^ (26 - m.log2) := by
      rw [show (26 - m.log2) = (25 - m.log2) + 1 by omega, Nat.pow_succ]
      show 2 * (m * 2 ^ (25 - m.log2)) + 0 = _
      rw [Nat.add_zero, Nat.mul_comm 2, Nat.mul_assoc]
    rw [e2] at hr
    have e3 : r = FloatKind.f32.format.nearest (s ^^ false) m i := by
      rw [← hr, ← nearest_scale FloatKind.f32.format (s ^^ false) m (26 - m.log2) i]
      show FloatKind.f32.format.nearest _ _ _ = _
      congr 1
      omega
    obtain ⟨last, hlast⟩ : ∃ z, z = max (i + (m.log2 : Int) - 23) (-149) := ⟨_, rfl⟩
    have hK : m * 2 ^ (i - last).toNat < 16777216 := by
      have g2 : m * 2 ^ (i - last).toNat < 2 ^ (m.log2 + 1) * 2 ^ (i - last).toNat := Nat.mul_lt_mul_of_pos_right pm2 (Nat.two_pow_pos _)
      rw [← Nat.pow_add] at g2
      exact Nat.lt_of_lt_of_le g2 (Nat.le_trans (Nat.pow_le_pow_right (by omega) (show m.log2 + 1 + (i - last).toNat ≤ 24 by omega)) (by decide))
    have e := nearest_exact FloatKind.f32.format (s ^^ false) m i last hm (by rw [f32_least, f32_frac]; exact hlast) (by omega) (by
      rw [f32_binade, f32_inf, f32_least]
      generalize m * 2 ^ (i - last).toNat = K at *
      omega)
    exact ⟨_, _, _, by rw [e3]; exact e⟩
  · obtain ⟨n', p, ey, hn, ln⟩ := ofInt_log h1 h2
    have hl2 : 1 ≤ n.log2 := (Nat.le_log2 (by omega)).2 (by omega)
    rw [ey] at hr
    simp only [Datum.quotient] at hr
    rw [if_neg hn, Nat.shiftLeft_eq] at hr
    simp only [Option.map_some, Option.some.injEq] at hr
    obtain ⟨T, hT⟩ : ∃ T, T = 25 + n'.log2 - m.log2 := ⟨_, rfl⟩
    obtain ⟨n1, n2, _⟩ := read_bd ey
    have ln' := log2_small n1
    have pn1 : 2 ^ n'.log2 ≤ n' := Nat.log2_self_le hn
    rw [← hT] at hr
    have hq : m * 2 ^ T / n' < 2 ^ 26 := by
      rw [Nat.div_lt_iff_lt_mul (by omega)]
      have a1 : m * 2 ^ T < 2 ^ (m.log2 + 1) * 2 ^ T := Nat.mul_lt_mul_of_pos_right pm2 (Nat.two_pow_pos _)
      have a2 : 2 ^ 26 * 2 ^ n'.log2 ≤ 2 ^ 26 * n' := Nat.mul_le_mul_left _ pn1
      rw [← Nat.pow_add] at a1 a2
      rw [show m.log2 + 1 + T = 26 + n'.log2 by omega] at a1
      omega
    obtain ⟨Q, hQ⟩ : ∃ Q, Q = 2 * (m * 2 ^ T / n') + (m * 2 ^ T % n' != 0).toNat := ⟨_, rfl⟩
    have hc : (m * 2 ^ T % n' != 0).toNat ≤ 1 := by cases (m * 2 ^ T % n' != 0) <;> decide
    have hQ2 : Q.log2 ≤ 26 := log2_le (by rw [hQ, show (2 : Nat) ^ (26 + 1) = 2 * 2 ^ 26 by rfl]; omega)
    rw [← hQ] at hr
    obtain ⟨k, l, h⟩ := finite_gen FloatKind.f32.format (s ^^ false) Q (i - p - T - 1) (by decide) (by
      right
      rw [f32_frac, f32_least, f32_binade, f32_inf]
      omega)
    exact ⟨_, _, _, by rw [← hr]; exact h⟩

/-- What a double of a single divided by a small whole number gives as a single. -/
theorem mean_dbl (x n : Nat) (h1 : 1 ≤ n) (h2 : n < 8388608) (hx : isNaN x = false) :
    ∃ r1 r2 r3, floatToFloatBits .f32 x .f64 = some r1 ∧ floatToFloatBits .f32 (floatOfInt .f32 (n : Int)) .f64 = some r2 ∧ floatBits .quo .f64 r1 r2 = some r3 ∧ floatToFloatBits .f64 r3 .f32 = some (fop .quo x (floatOfInt .f32 (n : Int))) := by
  obtain ⟨n', p, ey, hn, ln⟩ := ofInt_log h1 h2
  obtain ⟨r2, k2, l2, v1, v2, v3, v4, v5⟩ := widen _ false n' p ey
  have hk2 : k2 ≠ 0 := by rw [v5]; exact Nat.mul_ne_zero hn (Nat.ne_of_gt (Nat.two_pow_pos _))
  cases ex : rd x with
  | nan s f => rw [isNaN_iff, ex] at hx; cases hx
  | infinity s =>
    have ed : FloatKind.f64.decode (FloatKind.f64.encode (.infinity s)) = .infinity s := by cases s <;> decide
    refine ⟨FloatKind.f64.encode (.infinity s), r2, FloatKind.f64.encode (.infinity s), ?_, v1, ?_, ?_⟩
    · unfold floatToFloatBits
      rw [if_neg (by decide), show FloatKind.f32.decode x = .infinity s from ex]
    · rw [bits64_quo, v2, ed]
      simp only [Datum.quotient]
      rw [Bool.xor_false]
      rfl
    · have hf : floatBits .quo .f32 x (floatOfInt .f32 (n : Int)) = some (FloatKind.f32.format.write (.infinity s)) := by
        rw [bits_quo, ex, ey]
        simp only [Datum.quotient]
        rw [Bool.xor_false]; rfl
      unfold floatToFloatBits fop
      rw [if_neg (by decide), ed, hf]
      show some (FloatKind.f32.encode (.infinity s)) = some (canon (FloatKind.f32.format.write (.infinity s)))
      cases s <;> decide
  | number s m i =>
    by_cases hm : m = 0
    · subst hm
      obtain ⟨r1, k1, l1, w1, w2, w3, w4, w5⟩ := widen x s 0 i ex
      rw [Nat.zero_mul] at w5
      subst w5
      have hz : ∀ (f : Format) (t : Bool) (q : Int), f.nearest t 0 q = f.word t 0 := fun f t q => by unfold Format.nearest; rw [if_pos rfl]
      have hq : ∀ (g : Nat) (l j : Int) (k : Nat), k ≠ 0 → ∃ q, (Datum.number s 0 l).quotient g (.number false k j) = some (.number s 0 q) := fun g l j k hk => by
        simp only [Datum.quotient]
        rw [if_neg hk, Nat.zero_shiftLeft, Nat.zero_div, Nat.zero_mod, Bool.xor_false]
        exact ⟨_, rfl⟩
      obtain ⟨q1, hq1⟩ := hq 54 l1 l2 k2 hk2
      obtain ⟨q2, hq2⟩ := hq 25 i p n' hn
      refine ⟨r1, r2, FloatKind.f64.format.word s 0, w1, v1, ?_, ?_⟩
      · rw [bits64_quo, w2, v2, hq1, ← hz _ s q1]; rfl
      · have hf : floatBits .quo .f32 x (floatOfInt .f32 (n : Int)) = some (FloatKind.f32.format.word s 0) := by
          rw [bits_quo, ex, ey, hq2, ← hz _ s q2]; rfl
        have hr := nearest_zero FloatKind.f64.format s 0
        rw [hz] at hr
        rw [narrow_eq hr (.inl rfl), hz]
        unfold fop
        rw [hf]
        show some (FloatKind.f32.format.word s 0) = some (canon (FloatKind.f32.format.word s 0))
        cases s <;> decide
    · exact quo_any ex ey hm hn (quo_fin ex hm h1 h2)
end
end Go.Proofs.YticekgnmiaidjaaGreatDoor
