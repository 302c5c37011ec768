/- Rounded twice, by words: a double that is made a single. No program in sight. -/
import Derived.Test.YteebkfdocdmboaaDoorDbl
namespace Go.Proofs.YteebkfdocdmboaaDoor
open Go.RowKit Ieee

theorem rhe_sticky {X b d : Nat} (hb : 0 < b) : rhe (2 * (X / b) + (X % b != 0).toNat) (2 ^ (d + 2)) = rhe X (b * 2 ^ (d + 1)) := by
  obtain ⟨h, hh⟩ : ∃ h, h = 2 ^ d := ⟨_, rfl⟩
  have hh0 : 0 < h := by rw [hh]; exact Nat.two_pow_pos d
  have e1 : (2 : Nat) ^ (d + 1) = 2 * h := by rw [Nat.pow_succ, hh, Nat.mul_comm]
  have e2 : (2 : Nat) ^ (d + 2) = 2 * (2 * h) := by rw [show d + 2 = (d + 1) + 1 by omega, Nat.pow_succ, e1, Nat.mul_comm]
  rw [e1, e2]
  obtain ⟨Q, hQ⟩ : ∃ Q, Q = X / b := ⟨_, rfl⟩
  obtain ⟨r, hr⟩ : ∃ r, r = X % b := ⟨_, rfl⟩
  have hX : X = Q * b + r := by rw [hQ, hr, Nat.mul_comm]; exact (Nat.div_add_mod X b).symm
  have hrb : r < b := by rw [hr]; exact Nat.mod_lt _ hb
  rw [← hQ, ← hr]
  obtain ⟨c, hc⟩ : ∃ c, c = (r != 0).toNat := ⟨_, rfl⟩
  have hcc : (c = 0 ∧ r = 0) ∨ (c = 1 ∧ 0 < r) := by
    rw [hc]
    by_cases h0 : r = 0
    · left; subst h0; exact ⟨rfl, rfl⟩
    · right; rw [show (r != 0) = true by simpa using h0]; exact ⟨rfl, by omega⟩
  rw [← hc]
  clear hc hQ hr
  obtain ⟨q, hq⟩ : ∃ q, q = Q / (2 * h) := ⟨_, rfl⟩
  obtain ⟨t, ht⟩ : ∃ t, t = Q % (2 * h) := ⟨_, rfl⟩
  have htH : t < 2 * h := by rw [ht]; exact Nat.mod_lt _ (by omega)
  have hA : Q = q * (2 * h) + t := by rw [hq, ht, Nat.mul_comm]; exact (Nat.div_add_mod Q (2 * h)).symm
  have hn : 2 * Q + c = q * (2 * (2 * h)) + (2 * t + c) := by rw [hA, Nat.mul_left_comm q 2 (2 * h)]; omega
  have hb1 : t * b + r < b * (2 * h) := by
    have : (t + 1) * b ≤ 2 * h * b := Nat.mul_le_mul_right _ (by omega)
    rw [Nat.add_mul, Nat.mul_comm (2 * h)] at this
    omega
  have hXX : X = q * (b * (2 * h)) + (t * b + r) := by rw [hX, hA, Nat.add_mul, Nat.mul_assoc, Nat.mul_comm (2 * h) b, Nat.add_assoc]
  obtain ⟨d1, d2⟩ := rhe_parts (q := q) hb1
  obtain ⟨d3, d4⟩ := rhe_parts (q := q) (P := 2 * (2 * h)) (r := 2 * t + c) (by omega)
  rw [← hXX] at d1 d2
  rw [← hn] at d3 d4
  have eb : b * (2 * h) = 2 * (h * b) := by rw [Nat.mul_left_comm, Nat.mul_comm b h]
  rcases Nat.lt_trichotomy t h with h1 | h1 | h1
  · have : (t + 1) * b ≤ h * b := Nat.mul_le_mul_right _ (by omega)
    rw [Nat.add_mul] at this
    rw [rhe_lt (by rw [d4]; omega), rhe_lt (by rw [d2, eb]; omega), d1, d3]
  · rcases hcc with ⟨rfl, rfl⟩ | ⟨rfl, h0⟩
    · rw [rhe_eq (by rw [d4]; omega), rhe_eq (by rw [d2, eb, h1]; omega), d1, d3]
    · rw [rhe_gt (by rw [d4]; omega), rhe_gt (by rw [d2, eb, h1]; omega), d1, d3]
  · have : (h + 1) * b ≤ t * b := Nat.mul_le_mul_right _ (by omega)
    rw [Nat.add_mul] at this
    rw [rhe_gt (by rw [d4]; omega), rhe_gt (by rw [d2, eb]; omega), d1, d3]

/-- A sum of two numbers of 24 digits is no tie behind 53 digits. -/
theorem sum_tie {n A b D : Nat} (hn : n = A * 2 ^ D + b ∨ n + b = A * 2 ^ D) (hA : A < 16777216) (hb : b < 16777216) (hL : 53 ≤ n.log2) :
    n % 2 ^ (n.log2 - 52) = 0 ∨ rhe n (2 ^ (n.log2 - 52)) % (2 * 268435456) ≠ 268435456 := by
  right
  intro hN
  have hn0 : n ≠ 0 := by rintro rfl; simp at hL
  obtain ⟨L, hLe⟩ : ∃ L, L = n.log2 := ⟨_, rfl⟩
  rw [← hLe] at hN hL
  have hlow : 2 ^ L ≤ n := by rw [hLe]; exact Nat.log2_self_le hn0
  obtain ⟨P, hP⟩ : ∃ P, P = 2 ^ (L - 52) := ⟨_, rfl⟩
  rw [← hP] at hN
  have hP2 : 2 ≤ P := by rw [hP]; exact Nat.le_trans (by decide : 2 ≤ 2 ^ 1) (Nat.pow_le_pow_right (by omega) (by omega))
  have hLP : 2 ^ L = 4503599627370496 * P := by rw [hP, show (4503599627370496 : Nat) = 2 ^ 52 by rfl, ← Nat.pow_add, show 52 + (L - 52) = L by omega]
  obtain ⟨near1, near2⟩ := rhe_near (X := n) (P := P) (by omega)
  have hbig : 4503599627370496 ≤ rhe n P := by
    have : 4503599627370496 ≤ n / P := by rw [Nat.le_div_iff_mul_le (by omega)]; omega
    exact Nat.le_trans this (by unfold rhe; omega)
  generalize rhe n P = N at hN near1 near2 hbig
  obtain ⟨q, hq⟩ : ∃ q, N = q * 536870912 + 268435456 := ⟨N / 536870912, by omega⟩
  have hq2 : 8388608 ≤ q := by omega
  have eNP : N * P = 536870912 * (q * P) + 268435456 * P := by rw [hq, Nat.add_mul, Nat.mul_comm q, Nat.mul_assoc]
  rw [eNP] at near1 near2
  have hD : 29 ≤ D := by
    rcases Nat.lt_or_ge D 29 with h | h
    · exfalso
      have h1 : A * 2 ^ D ≤ 16777215 * 2 ^ 28 := Nat.mul_le_mul (by omega) (Nat.pow_le_pow_right (by omega) (by omega))
      have h2 : (2 : Nat) ^ 53 ≤ 2 ^ L := Nat.pow_le_pow_right (by omega) hL
      have e3 : (2 : Nat) ^ 53 = 9007199254740992 := by rfl
      have e4 : 16777215 * (2 : Nat) ^ 28 = 4503599358935040 := by rfl
      omega
    · exact h
  have hqP : 8388608 * P ≤ q * P := Nat.mul_le_mul_right _ hq2
  rcases Nat.lt_or_ge (L - 24) D with h | h
  · -- an even number of steps
    obtain ⟨v, hv⟩ : ∃ v, v = A * 2 ^ (D - (L - 23)) := ⟨_, rfl⟩
    have e : A * 2 ^ D = 536870912 * (v * P) := by
      rw [hv, hP, Nat.mul_assoc, ← Nat.pow_add, show (536870912 : Nat) = 2 ^ 29 by rfl, Nat.mul_left_comm, ← Nat.pow_add]
      congr 2; omega
    rw [e] at hn
    rcases Nat.lt_or_ge q v with h1 | h1
    · have : (q + 1) * P ≤ v * P := Nat.mul_le_mul_right _ h1
      rw [Nat.add_mul] at this
      omega
    · have : v * P ≤ q * P := Nat.mul_le_mul_right _ h1
      omega
  · have h1 : A * 2 ^ D ≤ 16777215 * 2 ^ (L - 24) := Nat.mul_le_mul (by omega) (Nat.pow_le_pow_right (by omega) h)
    have e2 : 2 ^ (L - 24) = 268435456 * P := by rw [hP, show (268435456 : Nat) = 2 ^ 28 by rfl, ← Nat.pow_add, show 28 + (L - 52) = L - 24 by omega]
    rw [e2] at h1
    omega
/-- A quotient of two numbers of 24 digits is no tie behind 53 digits. -/
theorem quo_tie {a b t B : Nat} (ha : a < 16777216) (hb0 : 0 < b) (hb : b < 16777216) {e : Nat} (hB : B = b * 2 ^ e) (hbig : 4503599627370496 ≤ rhe (a * 2 ^ t) B) :
    a * 2 ^ t % B = 0 ∨ rhe (a * 2 ^ t) B % (2 * 268435456) ≠ 268435456 := by
  rcases Nat.eq_zero_or_pos (a * 2 ^ t % B) with h0 | h0
  · exact .inl h0
  right
  intro hN
  have hB0 : 0 < B := by rw [hB]; exact Nat.mul_pos hb0 (Nat.two_pow_pos e)
  obtain ⟨near1, near2⟩ := rhe_near (X := a * 2 ^ t) (P := B) hB0
  have hex : rhe (a * 2 ^ t) B * B ≠ a * 2 ^ t := by
    intro h
    rw [← h, Nat.mul_mod_left] at h0
    omega
  generalize rhe (a * 2 ^ t) B = N at hN near1 near2 hbig hex
  obtain ⟨u, hu⟩ : ∃ u, N = 268435456 * u := ⟨N / 268435456, by omega⟩
  have hNB : 4503599627370496 * B ≤ N * B := Nat.mul_le_mul_right _ hbig
  have hp : 0 < 2 ^ e := Nat.two_pow_pos e
  have heB : 2 ^ e ≤ B := by rw [hB]; exact Nat.le_mul_of_pos_left _ hb0
  rcases Nat.lt_or_ge t (e + 28) with h | h
  · have h1 : a * 2 ^ t ≤ 16777215 * (2 ^ e * 134217728) := Nat.mul_le_mul (by omega) (by rw [show (134217728 : Nat) = 2 ^ 27 by rfl, ← Nat.pow_add]; exact Nat.pow_le_pow_right (by omega) (by omega))
    generalize 2 ^ e = p at *
    generalize a * 2 ^ t = X at *
    generalize N * B = Y at *
    omega
  · obtain ⟨v, hv⟩ : ∃ v, v = a * 2 ^ (t - (e + 28)) := ⟨_, rfl⟩
    have e1 : a * 2 ^ t = 268435456 * (v * 2 ^ e) := by
      rw [hv, Nat.mul_assoc, ← Nat.pow_add, show (268435456 : Nat) = 2 ^ 28 by rfl, Nat.mul_left_comm, ← Nat.pow_add]
      congr 2; omega
    have e2 : N * B = 268435456 * (u * b * 2 ^ e) := by rw [hu, hB, Nat.mul_assoc, Nat.mul_assoc u]
    rw [e1, e2] at near1 near2 hex
    have hB2 : B < 16777216 * 2 ^ e := by rw [hB]; exact Nat.mul_lt_mul_of_pos_right hb hp
    rcases Nat.lt_trichotomy v (u * b) with h1 | h1 | h1
    · have : (v + 1) * 2 ^ e ≤ u * b * 2 ^ e := Nat.mul_le_mul_right _ h1
      rw [Nat.add_mul] at this
      generalize 2 ^ e = p at *
      generalize v * p = X at *
      generalize u * b * p = Y at *
      omega
    · exact hex (by rw [h1])
    · have : (u * b + 1) * 2 ^ e ≤ v * 2 ^ e := Nat.mul_le_mul_right _ h1
      rw [Nat.add_mul] at this
      generalize 2 ^ e = p at *
      generalize v * p = X at *
      generalize u * b * p = Y at *
      omega

theorem nearest_rhe (f : Format) (s : Bool) {m : Nat} (p last : Int) (hm : m ≠ 0) (hlast : last = max (p + m.log2 - f.fractionBits) f.leastPlace) (hp : p ≤ last) :
    f.nearest s m p = f.word s (min ((last - f.leastPlace).toNat * f.binade + rhe m (2 ^ (last - p).toNat)) f.infRung) := by
  unfold Format.nearest
  rw [if_neg hm]
  simp only [← hlast]
  rw [show (p - last).toNat = 0 by omega, Nat.shiftLeft_zero, cut_rhe]
theorem nearest_up (f : Format) (s : Bool) {m : Nat} (p last : Int) (hm : m ≠ 0) (hlast : last = max (p + m.log2 - f.fractionBits) f.leastPlace) (hp : last ≤ p) :
    f.nearest s m p = f.word s (min ((last - f.leastPlace).toNat * f.binade + m * 2 ^ (p - last).toNat) f.infRung) := by
  unfold Format.nearest
  rw [if_neg hm]
  simp only [← hlast]
  rw [show (last - p).toNat = 0 by omega, cut_none, Nat.shiftLeft_eq]
theorem log2_is {n k : Nat} (h1 : 2 ^ k ≤ n) (h2 : n < 2 ^ (k + 1)) : n.log2 = k := by
  have h0 : n ≠ 0 := by have := Nat.two_pow_pos k; omega
  have a := (Nat.le_log2 h0).2 h1
  have b := (Nat.log2_lt h0).2 h2
  omega
theorem f32_least : FloatKind.f32.format.leastPlace = -149 := by decide
theorem f32_frac : FloatKind.f32.format.fractionBits = 23 := rfl
theorem rhe_le {X B k : Nat} (hB : 0 < B) (h : X ≤ k * B) : rhe X B ≤ k := by
  rcases Nat.lt_or_ge (X / B) k with h1 | h1
  · have hb : ∀ c : Bool, c.toNat ≤ 1 := by decide
    have := hb (decide (B < 2 * (X % B)) || (B == 2 * (X % B) && X / B % 2 == 1))
    unfold rhe; omega
  · have h2 : X / B ≤ k := by rw [Nat.div_le_iff_le_mul hB]; omega
    have h3 : X / B = k := by omega
    have h4 := Nat.div_add_mod X B
    rw [h3, Nat.mul_comm] at h4
    rw [rhe_lt (by omega)]; omega
theorem rhe_ge {X B k : Nat} (hB : 0 < B) (h : k * B ≤ X) : k ≤ rhe X B := by
  have : k ≤ X / B := by rw [Nat.le_div_iff_mul_le hB]; exact h
  exact Nat.le_trans this (by unfold rhe; omega)
/-- What a double reads as that was made of a longer number. -/
theorem dbl_read (s : Bool) {m : Nat} {p : Int} (hL : 53 ≤ m.log2) (h1 : -1000 ≤ p + m.log2) (h2 : p + m.log2 ≤ 1000) :
    ∃ k l, FloatKind.f64.format.read (FloatKind.f64.format.nearest s m p) = .number s k l ∧ l + k.log2 ≤ p + m.log2 + 1 ∧ ∀ g : Format, g.nearest s k l = g.nearest s (rhe m (2 ^ (m.log2 - 52))) (p + m.log2 - 52) := by
  have hm : m ≠ 0 := by rintro rfl; simp at hL
  obtain ⟨L, hLe⟩ : ∃ L, L = m.log2 := ⟨_, rfl⟩
  have e := nearest_rhe FloatKind.f64.format s p (p + L - 52) hm (by rw [f64_least, f64_frac, ← hLe]; omega) (by omega)
  have hlow : 2 ^ L ≤ m := by rw [hLe]; exact Nat.log2_self_le hm
  have hup : m < 2 ^ (L + 1) := by rw [hLe]; exact Nat.lt_log2_self
  rw [← hLe] at hL h1 h2 ⊢
  rw [show (p + L - 52 - p).toNat = L - 52 by omega] at e
  have hP : 0 < 2 ^ (L - 52) := Nat.two_pow_pos _
  have hN1 : 2 ^ 52 ≤ rhe m (2 ^ (L - 52)) := rhe_ge hP (by rw [← Nat.pow_add, show 52 + (L - 52) = L by omega]; exact hlow)
  have hN2 : rhe m (2 ^ (L - 52)) ≤ 2 ^ 53 := rhe_le hP (by rw [← Nat.pow_add, show 53 + (L - 52) = L + 1 by omega]; omega)
  generalize rhe m (2 ^ (L - 52)) = N at *
  rw [f64_least, f64_binade, f64_inf] at e
  have c52 : (2 : Nat) ^ 52 = 4503599627370496 := rfl
  have c53 : (2 : Nat) ^ 53 = 9007199254740992 := rfl
  rcases Nat.lt_or_ge N (2 ^ 53) with hN | hN
  · have hl := log2_is hN1 hN
    have e2 := nearest_up FloatKind.f64.format s (m := N) (p + L - 52) (p + L - 52) (by omega) (by rw [f64_least, f64_frac, hl]; omega) (by omega)
    rw [show (p + L - 52 - (p + L - 52)).toNat = 0 by omega, Nat.pow_zero, Nat.mul_one, f64_least, f64_binade, f64_inf] at e2
    have e3 := nearest_exact FloatKind.f64.format s N (p + L - 52) (p + L - 52) (by omega) (by rw [f64_least, f64_frac, hl]; omega) (by omega) (by rw [f64_least, f64_binade, f64_inf, show (p + L - 52 - (p + L - 52)).toNat = 0 by omega, Nat.pow_zero, Nat.mul_one]; omega)
    rw [show (p + L - 52 - (p + L - 52)).toNat = 0 by omega, Nat.pow_zero, Nat.mul_one] at e3
    refine ⟨N, p + L - 52, by rw [e, ← e2]; exact e3, by rw [hl]; omega, fun g => rfl⟩
  · have hNe : N = 2 ^ 53 := by omega
    have e2 := nearest_up FloatKind.f64.format s (m := 1) (p + L + 1) (p + L - 51) (by omega) (by rw [f64_least, f64_frac, show Nat.log2 1 = 0 by decide]; omega) (by omega)
    rw [show (p + L + 1 - (p + L - 51)).toNat = 52 by omega, f64_least, f64_binade, f64_inf] at e2
    have e3 := nearest_exact FloatKind.f64.format s 1 (p + L + 1) (p + L - 51) (by omega) (by rw [f64_least, f64_frac, show Nat.log2 1 = 0 by decide]; omega) (by omega) (by rw [f64_least, f64_binade, f64_inf, show (p + L + 1 - (p + L - 51)).toNat = 52 by omega]; omega)
    rw [show (p + L + 1 - (p + L - 51)).toNat = 52 by omega] at e3
    have ew : (p + L - 52 - -1074).toNat * 4503599627370496 + N = (p + L - 51 - -1074).toNat * 4503599627370496 + 1 * 2 ^ 52 := by
      rw [hNe, show (p + L - 51 - -1074).toNat = (p + L - 52 - -1074).toNat + 1 by omega]; omega
    refine ⟨1 * 2 ^ 52, p + L - 51, by rw [e, ew, ← e2]; exact e3, by rw [Nat.one_mul, show Nat.log2 (2 ^ 52) = 52 by decide]; omega, fun g => ?_⟩
    have a1 := nearest_scale g s 1 52 (p + L + 1)
    have a2 := nearest_scale g s 1 53 (p + L + 1)
    rw [Nat.one_mul] at a2
    rw [show p + (L : Int) + 1 - ((52 : Nat) : Int) = p + L - 51 by omega] at a1
    rw [show p + (L : Int) + 1 - ((53 : Nat) : Int) = p + L - 52 by omega] at a2
    rw [a1, hNe, a2]
theorem narrow_eq {x : Nat} {s : Bool} {k : Nat} {l : Int} (h : FloatKind.f64.format.read x = .number s k l) (hb : k = 0 ∨ l + k.log2 ≤ 126) : floatToFloatBits .f64 x .f32 = some (FloatKind.f32.format.nearest s k l) := by
  obtain ⟨k', l', hr⟩ := finite_write s k l hb
  unfold floatToFloatBits
  have h' : FloatKind.f64.decode x = .number s k l := h
  rw [if_neg (by decide), h']
  have hr2 : FloatKind.f32.decode (FloatKind.f32.encode (.number s k l)) = .number s k' l' := hr
  simp only [hr2]
  rfl
/-- Rounded twice is rounded once: a number of at most 53 digits. -/
theorem dbl_exact (s : Bool) {m : Nat} {p : Int} (hL : m.log2 ≤ 52) (h1 : -1074 ≤ p) (h2 : m = 0 ∨ p + m.log2 ≤ 126) : floatToFloatBits .f64 (FloatKind.f64.format.nearest s m p) .f32 = some (FloatKind.f32.format.nearest s m p) := by
  by_cases hm : m = 0
  · subst hm
    rw [narrow_eq (nearest_zero _ _ _) (.inl rfl)]
    unfold Format.nearest
    rw [if_pos rfl, if_pos rfl]
  · have h2 : p + m.log2 ≤ 126 := h2.resolve_left hm
    obtain ⟨last, hlast⟩ : ∃ last, last = max (p + (m.log2 : Int) - 52) (-1074) := ⟨_, rfl⟩
    have hK : m * 2 ^ (p - last).toNat < 2 ^ 53 := by
      have g1 : m < 2 ^ (m.log2 + 1) := Nat.lt_log2_self
      have g2 : m * 2 ^ (p - last).toNat < 2 ^ (m.log2 + 1) * 2 ^ (p - last).toNat := Nat.mul_lt_mul_of_pos_right g1 (Nat.two_pow_pos _)
      rw [← Nat.pow_add] at g2
      exact Nat.lt_of_lt_of_le g2 (Nat.pow_le_pow_right (by omega) (by omega))
    have e := nearest_exact FloatKind.f64.format s m p last hm (by rw [f64_least, f64_frac, hlast]; rfl) (by omega) (by
      rw [f64_binade, f64_inf, f64_least]
      generalize m * 2 ^ (p - last).toNat = K at *
      have : (last - -1074).toNat ≤ 1300 := by omega
      have := Nat.mul_le_mul_right 4503599627370496 this
      omega)
    have hsc := nearest_scale FloatKind.f32.format s m (p - last).toNat p
    rw [show p - ((p - last).toNat : Int) = last by omega] at hsc
    rw [narrow_eq e (.inr (by rw [log2_mul_pow _ hm]; omega)), hsc]
/-- Rounded twice is rounded once: a longer number. -/
theorem dbl_long (s : Bool) {m : Nat} {p : Int} (hL : 53 ≤ m.log2) (h1 : -126 ≤ p + m.log2) (h2 : p + m.log2 ≤ 125) (h3 : rhe (rhe m (2 ^ (m.log2 - 52))) (2 * 268435456) = rhe m (2 ^ (m.log2 - 52) * (2 * 268435456))) :
    floatToFloatBits .f64 (FloatKind.f64.format.nearest s m p) .f32 = some (FloatKind.f32.format.nearest s m p) := by
  obtain ⟨k, l, hr, hk, hg⟩ := dbl_read s (p := p) hL (by omega) (by omega)
  rw [narrow_eq hr (.inr (by omega)), hg]
  have hm : m ≠ 0 := by rintro rfl; simp at hL
  obtain ⟨L, hLe⟩ : ∃ L, L = m.log2 := ⟨_, rfl⟩
  have e := nearest_rhe FloatKind.f32.format s p (p + L - 23) hm (by rw [f32_least, f32_frac, ← hLe]; omega) (by omega)
  have hlow : 2 ^ L ≤ m := by rw [hLe]; exact Nat.log2_self_le hm
  have hup : m < 2 ^ (L + 1) := by rw [hLe]; exact Nat.lt_log2_self
  rw [← hLe] at hL h1 h2 h3 ⊢
  rw [show (p + L - 23 - p).toNat = L - 23 by omega] at e
  have ep : (2 : Nat) ^ (L - 23) = 2 ^ (L - 52) * (2 * 268435456) := by rw [show (2 * 268435456 : Nat) = 2 ^ 29 by rfl, ← Nat.pow_add, show L - 52 + 29 = L - 23 by omega]
  rw [ep, ← h3] at e
  have hP : 0 < 2 ^ (L - 52) := Nat.two_pow_pos _
  have hN1 : 2 ^ 52 ≤ rhe m (2 ^ (L - 52)) := rhe_ge hP (by rw [← Nat.pow_add, show 52 + (L - 52) = L by omega]; exact hlow)
  have hN2 : rhe m (2 ^ (L - 52)) ≤ 2 ^ 53 := rhe_le hP (by rw [← Nat.pow_add, show 53 + (L - 52) = L + 1 by omega]; omega)
  generalize rhe m (2 ^ (L - 52)) = N at *
  have c52 : (2 : Nat) ^ 52 = 4503599627370496 := rfl
  have c53 : (2 : Nat) ^ 53 = 9007199254740992 := rfl
  rw [e]
  congr 1
  rcases Nat.lt_or_ge N (2 ^ 53) with hN | hN
  · have hl := log2_is hN1 hN
    have e2 := nearest_rhe FloatKind.f32.format s (m := N) (p + L - 52) (p + L - 23) (by omega) (by rw [f32_least, f32_frac, hl]; omega) (by omega)
    rw [show (p + L - 23 - (p + L - 52)).toNat = 29 by omega] at e2
    exact e2
  · have hNe : N = 2 ^ 53 := by omega
    have a2 := nearest_scale FloatKind.f32.format s 1 53 (p + L + 1)
    rw [Nat.one_mul, show p + (L : Int) + 1 - ((53 : Nat) : Int) = p + L - 52 by omega] at a2
    have e2 := nearest_up FloatKind.f32.format s (m := 1) (p + L + 1) (p + L - 22) (by omega) (by rw [f32_least, f32_frac, show Nat.log2 1 = 0 by decide]; omega) (by omega)
    have er : rhe (2 ^ 53) (2 * 268435456) = 16777216 := by decide +kernel
    have ew : (p + L - 23 - -149).toNat * 8388608 + rhe (2 ^ 53) (2 * 268435456) = (p + L - 22 - -149).toNat * 8388608 + 1 * 2 ^ (p + L + 1 - (p + L - 22)).toNat := by
      rw [er, show (p + L + 1 - (p + L - 22)).toNat = 23 by omega, show (p + L - 22 - -149).toNat = (p + L - 23 - -149).toNat + 1 by omega]
      omega
    rw [hNe, a2, e2, f32_least, f32_binade, f32_inf, ew]
end Go.Proofs.YteebkfdocdmboaaDoor
