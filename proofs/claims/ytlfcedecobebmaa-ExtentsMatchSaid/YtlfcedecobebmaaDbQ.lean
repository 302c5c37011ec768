/- A single divided by a small whole number, by way of doubles: at every single, also the smallest and the greatest. No program in sight. -/
import Derived.Test.YtlfcedecobebmaaDfQ
namespace Go.Proofs.Ytlfcedecobebmaa
open Go.RowKit Ieee

/-- A quotient of two numbers of 24 digits, rounded to 53 digits, ends in no 28 noughts, but where it is exact. -/
theorem quo_tie2 {a b t B : Nat} (ha : a < 16777216) (hb0 : 0 < b) (hb : b < 16777216) {e : Nat} (hB : B = b * 2 ^ e) (hbig : 4503599627370496 ≤ rhe (a * 2 ^ t) B) :
    a * 2 ^ t % B = 0 ∨ rhe (a * 2 ^ t) B % 268435456 ≠ 0 := by
  rcases Nat.eq_zero_or_pos (a * 2 ^ t % B) with h0 | h0
  · exact .inl h0
  right
  intro hN
  have hB0 : 0 < B := by rw [hB]; exact Nat.mul_pos hb0 (Nat.two_pow_pos e)
  obtain ⟨near1, near2⟩ := rhe_near (X := a * 2 ^ t) (P := B) hB0
  have hex : rhe (a * 2 ^ t) B * B ≠ a * 2 ^ t := by
    intro h
    rw [← h, Nat.mul_mod_left] at h0
    omega
  generalize rhe (a * 2 ^ t) B = N at hN near1 near2 hbig hex
  obtain ⟨u, hu⟩ : ∃ u, N = 268435456 * u := ⟨N / 268435456, by omega⟩
  have hNB : 4503599627370496 * B ≤ N * B := Nat.mul_le_mul_right _ hbig
  have hp : 0 < 2 ^ e := Nat.two_pow_pos e
  have heB : 2 ^ e ≤ B := by rw [hB]; exact Nat.le_mul_of_pos_left _ hb0
  rcases Nat.lt_or_ge t (e + 28) with h | h
  · have h1 : a * 2 ^ t ≤ 16777215 * (2 ^ e * 134217728) := Nat.mul_le_mul (by omega) (by rw [show (134217728 : Nat) = 2 ^ 27 by rfl, ← Nat.pow_add]; exact Nat.pow_le_pow_right (by omega) (by omega))
    generalize 2 ^ e = p at *
    generalize a * 2 ^ t = X at *
    generalize N * B = Y at *
    omega
  · obtain ⟨v, hv⟩ : ∃ v, v = a * 2 ^ (t - (e + 28)) := ⟨_, rfl⟩
    have e1 : a * 2 ^ t = 268435456 * (v * 2 ^ e) := by
      rw [hv, Nat.mul_assoc, ← Nat.pow_add, show (268435456 : Nat) = 2 ^ 28 by rfl, Nat.mul_left_comm, ← Nat.pow_add]
      congr 2; omega
    have e2 : N * B = 268435456 * (u * b * 2 ^ e) := by rw [hu, hB, Nat.mul_assoc, Nat.mul_assoc u]
    rw [e1, e2] at near1 near2 hex
    have hB2 : B < 16777216 * 2 ^ e := by rw [hB]; exact Nat.mul_lt_mul_of_pos_right hb hp
    rcases Nat.lt_trichotomy v (u * b) with h1 | h1 | h1
    · have : (v + 1) * 2 ^ e ≤ u * b * 2 ^ e := Nat.mul_le_mul_right _ h1
      rw [Nat.add_mul] at this
      generalize 2 ^ e = p at *
      generalize v * p = X at *
      generalize u * b * p = Y at *
      omega
    · exact hex (by rw [h1])
    · have : (u * b + 1) * 2 ^ e ≤ v * 2 ^ e := Nat.mul_le_mul_right _ h1
      rw [Nat.add_mul] at this
      generalize 2 ^ e = p at *
      generalize v * p = X at *
      generalize u * b * p = Y at *
      omega

theorem narrow_fin {x : Nat} {s : Bool} {k : Nat} {l : Int} (h : FloatKind.f64.format.read x = .number s k l) (hf : ∃ t k' l', FloatKind.f32.format.read (FloatKind.f32.format.nearest s k l) = .number t k' l') : floatToFloatBits .f64 x .f32 = some (FloatKind.f32.format.nearest s k l) := by
  obtain ⟨t, k', l', hr⟩ := hf
  unfold floatToFloatBits
  have h' : FloatKind.f64.decode x = .number s k l := h
  rw [if_neg (by decide), h']
  have hr2 : FloatKind.f32.decode (FloatKind.f32.encode (.number s k l)) = .number t k' l' := hr
  simp only [hr2]
  rfl

/-- Rounded twice is rounded once: a longer number, also a very small one. -/
theorem dbl_any (s : Bool) {m : Nat} {p last : Int} (hL : 53 ≤ m.log2) (h1 : -900 ≤ p + m.log2) (h2 : p + m.log2 ≤ 900) (hlast : last = max (p + m.log2 - 23) (-149))
    (h3 : rhe (rhe m (2 ^ (m.log2 - 52))) (2 ^ (last - (p + m.log2 - 52)).toNat) = rhe m (2 ^ (last - p).toNat)) (hf : ∃ t k l, FloatKind.f32.format.read (FloatKind.f32.format.nearest s m p) = .number t k l) :
    floatToFloatBits .f64 (FloatKind.f64.format.nearest s m p) .f32 = some (FloatKind.f32.format.nearest s m p) := by
  obtain ⟨k, l, hr, hk, hg⟩ := dbl_read s (p := p) hL (by omega) (by omega)
  have hm : m ≠ 0 := by rintro rfl; simp at hL
  obtain ⟨L, hLe⟩ : ∃ L, L = m.log2 := ⟨_, rfl⟩
  have e := nearest_rhe FloatKind.f32.format s p last hm (by rw [f32_least, f32_frac]; exact hlast) (by omega)
  have hlow : 2 ^ L ≤ m := by rw [hLe]; exact Nat.log2_self_le hm
  have hup : m < 2 ^ (L + 1) := by rw [hLe]; exact Nat.lt_log2_self
  have key : FloatKind.f32.format.nearest s k l = FloatKind.f32.format.nearest s m p := by
    rw [hg]
    rw [← hLe] at hL h1 h2 h3 hlast ⊢
    rw [← h3] at e
    have hP : 0 < 2 ^ (L - 52) := Nat.two_pow_pos _
    have hN1 : 2 ^ 52 ≤ rhe m (2 ^ (L - 52)) := rhe_ge hP (by rw [← Nat.pow_add, show 52 + (L - 52) = L by omega]; exact hlow)
    have hN2 : rhe m (2 ^ (L - 52)) ≤ 2 ^ 53 := rhe_le hP (by rw [← Nat.pow_add, show 53 + (L - 52) = L + 1 by omega]; omega)
    generalize rhe m (2 ^ (L - 52)) = N at *
    have c52 : (2 : Nat) ^ 52 = 4503599627370496 := rfl
    have c53 : (2 : Nat) ^ 53 = 9007199254740992 := rfl
    rw [e]
    rcases Nat.lt_or_ge N (2 ^ 53) with hN | hN
    · have hl := log2_is hN1 hN
      exact nearest_rhe FloatKind.f32.format s (m := N) (p + L - 52) last (by omega) (by rw [f32_least, f32_frac, hl]; omega) (by omega)
    · have hNe : N = 2 ^ 53 := by omega
      have hl : N.log2 = 53 := by rw [hNe]; decide
      obtain ⟨last2, hlast2⟩ : ∃ z, z = max (p + (L : Int) - 22) (-149) := ⟨_, rfl⟩
      have e2 := nearest_rhe FloatKind.f32.format s (m := N) (p + L - 52) last2 (by omega) (by rw [f32_least, f32_frac, hl]; omega) (by omega)
      rw [e2]
      rcases (by omega : last2 = last ∨ (last2 = last + 1 ∧ last = p + L - 23)) with h | ⟨h, h'⟩
      · rw [h]
      · rw [f32_least, f32_binade, f32_inf, hNe, show (last2 - (p + L - 52)).toNat = 30 by omega, show (last - (p + L - 52)).toNat = 29 by omega, show (last2 - -149).toNat = (last - -149).toNat + 1 by omega]
        rw [show rhe (2 ^ 53) (2 ^ 30) = 8388608 by decide +kernel, show rhe (2 ^ 53) (2 ^ 29) = 16777216 by decide +kernel]
        rw [show ((last - -149).toNat + 1) * 8388608 + 8388608 = (last - -149).toNat * 8388608 + 16777216 by omega]
  rw [narrow_fin hr (by rw [key]; exact hf), key]

/-- A quotient by way of doubles is the quotient, wherever it is finite. -/
theorem quo_any {x y : Nat} {s t : Bool} {m n : Nat} {i j : Int} (ex : rd x = .number s m i) (ey : rd y = .number t n j) (hm : m ≠ 0) (hn : n ≠ 0)
    (hfin : ∀ r, floatBits .quo .f32 x y = some r → ∃ u k l, rd r = .number u k l) :
    ∃ r1 r2 r3, floatToFloatBits .f32 x .f64 = some r1 ∧ floatToFloatBits .f32 y .f64 = some r2 ∧ floatBits .quo .f64 r1 r2 = some r3 ∧ floatToFloatBits .f64 r3 .f32 = some (fop .quo x y) := by
  obtain ⟨m1, m2, _⟩ := read_bd ex
  obtain ⟨n1, n2, _⟩ := read_bd ey
  have lm := log2_small m1
  have ln := log2_small n1
  obtain ⟨r1, k1, l1, w1, w2, w3, w4, w5⟩ := widen x s m i ex
  obtain ⟨r2, k2, l2, v1, v2, v3, v4, v5⟩ := widen y t n j ey
  have hk1 : k1.log2 ≤ 52 := log2_le (read64_bd w2)
  rw [w5, log2_mul_pow _ hm] at hk1
  obtain ⟨T, hT⟩ : ∃ T, T = 25 + n.log2 - m.log2 := ⟨_, rfl⟩
  obtain ⟨X, hX⟩ : ∃ X, X = m * 2 ^ T := ⟨_, rfl⟩
  have n0 : 0 < n := by omega
  have pm1 : 2 ^ m.log2 ≤ m := Nat.log2_self_le hm
  have pm2 : m < 2 ^ (m.log2 + 1) := Nat.lt_log2_self
  have pn1 : 2 ^ n.log2 ≤ n := Nat.log2_self_le hn
  have pn2 : n < 2 ^ (n.log2 + 1) := Nat.lt_log2_self
  have x1 : 2 ^ (25 + n.log2) ≤ X := by
    rw [hX, show 25 + n.log2 = m.log2 + T by omega, Nat.pow_add]
    exact Nat.mul_le_mul_right _ pm1
  have x2 : X < 2 ^ (26 + n.log2) := by
    rw [hX, show 26 + n.log2 = (m.log2 + 1) + T by omega, Nat.pow_add]
    exact Nat.mul_lt_mul_of_pos_right pm2 (Nat.two_pow_pos _)
  obtain ⟨l, hl, hl1, hl2⟩ : ∃ l, (l = 24 ∨ l = 25) ∧ 2 ^ l * n ≤ X ∧ X < 2 ^ (l + 1) * n := by
    have g1 : 2 ^ 24 * n ≤ X := by
      have : 2 ^ 24 * n ≤ 2 ^ 24 * 2 ^ (n.log2 + 1) := Nat.mul_le_mul_left _ (by omega)
      rw [← Nat.pow_add, show 24 + (n.log2 + 1) = 25 + n.log2 by omega] at this
      omega
    have g2 : X < 2 ^ 26 * n := by
      have : 2 ^ 26 * 2 ^ n.log2 ≤ 2 ^ 26 * n := Nat.mul_le_mul_left _ pn1
      rw [← Nat.pow_add] at this
      omega
    rcases Nat.lt_or_ge X (2 ^ 25 * n) with h | h
    · exact ⟨24, .inl rfl, g1, h⟩
    · exact ⟨25, .inr rfl, h, g2⟩
  have n25 := quo_log n0 hl1 hl2 (X % n != 0)
  obtain ⟨Y, hY⟩ : ∃ Y, Y = X * 2 ^ 29 := ⟨_, rfl⟩
  have n54 := quo_log (X := Y) (l := l + 29) n0 (by rw [hY, Nat.pow_add, Nat.mul_right_comm]; exact Nat.mul_le_mul_right _ hl1) (by rw [hY, show l + 29 + 1 = (l + 1) + 29 by omega, Nat.pow_add, Nat.mul_right_comm]; exact Nat.mul_lt_mul_of_pos_right hl2 (Nat.two_pow_pos _)) (Y % n != 0)
  have e1 : (Datum.number s m i).quotient 25 (.number t n j) = some (.number (s ^^ t) (2 * (X / n) + (X % n != 0).toNat) (i - j - T - 1)) := by
    simp only [Datum.quotient]
    rw [if_neg hn, Nat.shiftLeft_eq, ← hT, ← hX]
  have e2 : (Datum.number s k1 l1).quotient 54 (.number t k2 l2) = some (.number (s ^^ t) (2 * (Y / n) + (Y % n != 0).toNat) (i - j - T - 30)) := by
    have hk2 : k2 ≠ 0 := by rw [v5]; exact Nat.mul_ne_zero hn (Nat.ne_of_gt (Nat.two_pow_pos _))
    simp only [Datum.quotient]
    rw [if_neg hk2, Nat.shiftLeft_eq]
    obtain ⟨more, hmore⟩ : ∃ more, more = 54 + k2.log2 - k1.log2 := ⟨_, rfl⟩
    rw [← hmore]
    have hmm : more = 54 + (n.log2 + (j - l2).toNat) - (m.log2 + (i - l1).toNat) := by rw [hmore, w5, v5, log2_mul_pow _ hm, log2_mul_pow _ hn]
    have eY : k1 * 2 ^ more = Y * 2 ^ (j - l2).toNat := by
      rw [w5, hY, hX, Nat.mul_assoc, Nat.mul_assoc, Nat.mul_assoc, ← Nat.pow_add, ← Nat.pow_add, ← Nat.pow_add]
      congr 2; omega
    have hp : 0 < 2 ^ (j - l2).toNat := Nat.two_pow_pos _
    have eb : ∀ a : Nat, (a * 2 ^ (j - l2).toNat != 0) = (a != 0) := by
      intro a
      rw [Bool.eq_iff_iff, bne_iff_ne, bne_iff_ne]
      constructor
      · rintro h rfl; exact h (Nat.zero_mul _)
      · intro h; exact Nat.mul_ne_zero h (by omega)
    rw [eY, v5, Nat.mul_div_mul_right _ _ hp, Nat.mul_mod_mul_right, eb]
    congr 2
    omega
  obtain ⟨last, hlast⟩ : ∃ z, z = max (i - j - (T : Int) - 1 + ((l : Int) - 22)) (-149) := ⟨_, rfl⟩
  obtain ⟨d, hd⟩ : ∃ d : Nat, last = i - j - (T : Int) - 1 + (l - 24 : Nat) + 2 + (d : Int) := ⟨(last - (i - j - (T : Int) - 1 + ((l : Int) - 22))).toNat, by omega⟩
  have hsame : FloatKind.f32.format.nearest (s ^^ t) (2 * (Y / n) + (Y % n != 0).toNat) (i - j - T - 30) = FloatKind.f32.format.nearest (s ^^ t) (2 * (X / n) + (X % n != 0).toNat) (i - j - T - 1) := by
    have z1 : 2 * (X / n) + (X % n != 0).toNat ≠ 0 := by intro h; rw [h] at n25; simp at n25
    have z2 : 2 * (Y / n) + (Y % n != 0).toNat ≠ 0 := by intro h; rw [h] at n54; simp at n54
    have c1 := nearest_rhe FloatKind.f32.format (s ^^ t) (i - j - T - 1) last z1 (by rw [f32_least, f32_frac, n25]; omega) (by omega)
    have c2 := nearest_rhe FloatKind.f32.format (s ^^ t) (i - j - T - 30) last z2 (by rw [f32_least, f32_frac, n54]; omega) (by omega)
    rw [show (last - (i - j - (T : Int) - 1)).toNat = (l - 24 + d) + 2 by omega, rhe_sticky n0] at c1
    rw [show (last - (i - j - (T : Int) - 30)).toNat = (l - 24 + d + 29) + 2 by omega, rhe_sticky n0] at c2
    have e5 : n * 2 ^ (l - 24 + d + 29 + 1) = n * 2 ^ (l - 24 + d + 1) * 2 ^ 29 := by rw [Nat.mul_assoc, ← Nat.pow_add]
    have e6 : rhe Y (n * 2 ^ (l - 24 + d + 29 + 1)) = rhe X (n * 2 ^ (l - 24 + d + 1)) := by rw [e5, hY, rhe_mul _ _ _ (Nat.two_pow_pos 29)]
    rw [c1, c2, e6]
  have hf : floatBits .quo .f32 x y = some (FloatKind.f32.format.nearest (s ^^ t) (2 * (X / n) + (X % n != 0).toNat) (i - j - T - 1)) := by rw [bits_quo, ex, ey, e1]; rfl
  have hr := hfin _ hf
  have hlong : floatToFloatBits .f64 (FloatKind.f64.format.nearest (s ^^ t) (2 * (Y / n) + (Y % n != 0).toNat) (i - j - T - 30)) .f32 = some (FloatKind.f32.format.nearest (s ^^ t) (2 * (Y / n) + (Y % n != 0).toNat) (i - j - T - 30)) := by
    refine dbl_any (s ^^ t) (last := last) (by omega) (by rw [n54]; omega) (by rw [n54]; omega) (by rw [n54]; omega) ?_ (by rw [hsame]; exact hr)
    have hbig : 4503599627370496 ≤ rhe (2 * (Y / n) + (Y % n != 0).toNat) (2 ^ (l + 29 + 1 - 52)) := by
      refine rhe_ge (Nat.two_pow_pos _) ?_
      have hz : 2 * (Y / n) + (Y % n != 0).toNat ≠ 0 := by intro h; rw [h] at n54; simp at n54
      have := Nat.log2_self_le hz
      rw [n54] at this
      rw [show (4503599627370496 : Nat) = 2 ^ 52 by rfl, ← Nat.pow_add, show 52 + (l + 29 + 1 - 52) = l + 29 + 1 by omega]
      exact this
    rw [n54]
    rw [show l + 29 + 1 - 52 = (l - 24) + 2 by omega] at hbig ⊢
    rw [show (last - (i - j - (T : Int) - 30 + ((l + 29 + 1 : Nat) : Int) - 52)).toNat = (d + 28) + 1 by omega, show (last - (i - j - (T : Int) - 30)).toNat = ((l - 24) + d + 29) + 2 by omega]
    rw [rhe_sticky n0, rhe_sticky n0]
    rw [rhe_sticky n0] at hbig
    have e7 : n * 2 ^ (l - 24 + d + 29 + 1) = n * 2 ^ (l - 24 + 1) * (2 * 2 ^ (d + 28)) := by rw [Nat.mul_assoc, show 2 * 2 ^ (d + 28) = 2 ^ (d + 29) by rw [Nat.pow_succ 2 (d + 28), Nat.mul_comm], ← Nat.pow_add]; congr 2; omega
    rw [e7, show (2 : Nat) ^ (d + 28 + 1) = 2 * 2 ^ (d + 28) by rw [Nat.pow_succ, Nat.mul_comm]]
    have hYm : Y = m * 2 ^ (T + 29) := by rw [hY, hX, Nat.mul_assoc, ← Nat.pow_add]
    refine rhe_twice (Nat.mul_pos n0 (Nat.two_pow_pos _)) (Nat.two_pow_pos _) ?_
    rw [hYm] at hbig ⊢
    rcases quo_tie2 m1 n0 n1 rfl hbig with h | h
    · exact .inl h
    · right
      intro hh
      apply h
      have hdv : (268435456 : Nat) ∣ 2 ^ (d + 28) := by rw [Nat.pow_add, show (2 : Nat) ^ 28 = 268435456 by rfl]; exact Nat.dvd_mul_left _ _
      have h5 := Nat.div_add_mod (rhe (m * 2 ^ (T + 29)) (n * 2 ^ (l - 24 + 1))) (2 * 2 ^ (d + 28))
      rw [hh] at h5
      rw [← h5]
      refine Nat.mod_eq_zero_of_dvd (Nat.dvd_add ?_ hdv)
      exact Nat.dvd_trans (Nat.dvd_trans hdv (Nat.dvd_mul_left _ 2)) (Nat.dvd_mul_right _ _)
  have hF : fop .quo x y = FloatKind.f32.format.nearest (s ^^ t) (2 * (X / n) + (X % n != 0).toNat) (i - j - T - 1) := by
    unfold fop
    rw [hf]
    obtain ⟨u, k, l, h⟩ := hr
    exact canon_of_num (by rw [isNaN_iff, h]; rfl)
  refine ⟨r1, r2, FloatKind.f64.format.nearest (s ^^ t) (2 * (Y / n) + (Y % n != 0).toNat) (i - j - T - 30), w1, v1, ?_, ?_⟩
  · rw [bits64_quo, w2, v2, e2]; rfl
  · rw [hlong, hsame, hF]

/-- A quotient by a whole number from 1 on is finite. -/
theorem quo_fin {x n : Nat} {s : Bool} {m : Nat} {i : Int} (ex : rd x = .number s m i) (hm : m ≠ 0) (h1 : 1 ≤ n) (h2 : n < 8388608) : ∀ r, floatBits .quo .f32 x (floatOfInt .f32 (n : Int)) = some r → ∃ u k l, rd r = .number u k l := by
  intro r hr
  obtain ⟨m1, m2, m3⟩ := read_bd ex
  have lm := log2_small m1
  have pm2 : m < 2 ^ (m.log2 + 1) := Nat.lt_log2_self
  rw [bits_quo, ex] at hr
  by_cases hn1 : n = 1
  · subst hn1
    rw [show rd (floatOfInt .f32 ((1 : Nat) : Int)) = .number false 8388608 (-23) by decide] at hr
    simp only [Datum.quotient] at hr
    rw [if_neg (by decide), Nat.shiftLeft_eq, show Nat.log2 8388608 = 23 by decide, show (8388608 : Nat) = 2 ^ 23 by rfl] at hr
    have e1 : m * 2 ^ (25 + 23 - m.log2) = m * 2 ^ (25 - m.log2) * 2 ^ 23 := by rw [Nat.mul_assoc, ← Nat.pow_add]; congr 2; omega
    rw [e1, Nat.mul_div_cancel _ (Nat.two_pow_pos _), Nat.mul_mod_left] at hr
    simp only [Option.map_some, Option.some.injEq] at hr
    have e2 : 2 * (m * 2 ^ (25 - m.log2)) + (0 != 0).toNat = m * 2 ^ (26 - m.log2) := by
      rw [show (26 - m.log2) = (25 - m.log2) + 1 by omega, Nat.pow_succ]
      show 2 * (m * 2 ^ (25 - m.log2)) + 0 = _
      rw [Nat.add_zero, Nat.mul_comm 2, Nat.mul_assoc]
    rw [e2] at hr
    have e3 : r = FloatKind.f32.format.nearest (s ^^ false) m i := by
      rw [← hr, ← nearest_scale FloatKind.f32.format (s ^^ false) m (26 - m.log2) i]
      show FloatKind.f32.format.nearest _ _ _ = _
      congr 1
      omega
    obtain ⟨last, hlast⟩ : ∃ z, z = max (i + (m.log2 : Int) - 23) (-149) := ⟨_, rfl⟩
    have hK : m * 2 ^ (i - last).toNat < 16777216 := by
      have g2 : m * 2 ^ (i - last).toNat < 2 ^ (m.log2 + 1) * 2 ^ (i - last).toNat := Nat.mul_lt_mul_of_pos_right pm2 (Nat.two_pow_pos _)
      rw [← Nat.pow_add] at g2
      exact Nat.lt_of_lt_of_le g2 (Nat.le_trans (Nat.pow_le_pow_right (by omega) (show m.log2 + 1 + (i - last).toNat ≤ 24 by omega)) (by decide))
    have e := nearest_exact FloatKind.f32.format (s ^^ false) m i last hm (by rw [f32_least, f32_frac]; exact hlast) (by omega) (by
      rw [f32_binade, f32_inf, f32_least]
      generalize m * 2 ^ (i - last).toNat = K at *
      omega)
    exact ⟨_, _, _, by rw [e3]; exact e⟩
  · obtain ⟨n', p, ey, hn, ln⟩ := ofInt_log h1 h2
    have hl2 : 1 ≤ n.log2 := (Nat.le_log2 (by omega)).2 (by omega)
    rw [ey] at hr
    simp only [Datum.quotient] at hr
    rw [if_neg hn, Nat.shiftLeft_eq] at hr
    simp only [Option.map_some, Option.some.injEq] at hr
    obtain ⟨T, hT⟩ : ∃ T, T = 25 + n'.log2 - m.log2 := ⟨_, rfl⟩
    obtain ⟨n1, n2, _⟩ := read_bd ey
    have ln' := log2_small n1
    have pn1 : 2 ^ n'.log2 ≤ n' := Nat.log2_self_le hn
    rw [← hT] at hr
    have hq : m * 2 ^ T / n' < 2 ^ 26 := by
      rw [Nat.div_lt_iff_lt_mul (by omega)]
      have a1 : m * 2 ^ T < 2 ^ (m.log2 + 1) * 2 ^ T := Nat.mul_lt_mul_of_pos_right pm2 (Nat.two_pow_pos _)
      have a2 : 2 ^ 26 * 2 ^ n'.log2 ≤ 2 ^ 26 * n' := Nat.mul_le_mul_left _ pn1
      rw [← Nat.pow_add] at a1 a2
      rw [show m.log2 + 1 + T = 26 + n'.log2 by omega] at a1
      omega
    obtain ⟨Q, hQ⟩ : ∃ Q, Q = 2 * (m * 2 ^ T / n') + (m * 2 ^ T % n' != 0).toNat := ⟨_, rfl⟩
    have hc : (m * 2 ^ T % n' != 0).toNat ≤ 1 := by cases (m * 2 ^ T % n' != 0) <;> decide
    have hQ2 : Q.log2 ≤ 26 := log2_le (by rw [hQ, show (2 : Nat) ^ (26 + 1) = 2 * 2 ^ 26 by rfl]; omega)
    rw [← hQ] at hr
    obtain ⟨k, l, h⟩ := finite_gen FloatKind.f32.format (s ^^ false) Q (i - p - T - 1) (by decide) (by
      right
      rw [f32_frac, f32_least, f32_binade, f32_inf]
      omega)
    exact ⟨_, _, _, by rw [← hr]; exact h⟩

/-- What a double of a single divided by a small whole number gives as a single. -/
theorem mean_dbl (x n : Nat) (h1 : 1 ≤ n) (h2 : n < 8388608) (hx : isNaN x = false) :
    ∃ r1 r2 r3, floatToFloatBits .f32 x .f64 = some r1 ∧ floatToFloatBits .f32 (floatOfInt .f32 (n : Int)) .f64 = some r2 ∧ floatBits .quo .f64 r1 r2 = some r3 ∧ floatToFloatBits .f64 r3 .f32 = some (fop .quo x (floatOfInt .f32 (n : Int))) := by
  obtain ⟨n', p, ey, hn, ln⟩ := ofInt_log h1 h2
  obtain ⟨r2, k2, l2, v1, v2, v3, v4, v5⟩ := widen _ false n' p ey
  have hk2 : k2 ≠ 0 := by rw [v5]; exact Nat.mul_ne_zero hn (Nat.ne_of_gt (Nat.two_pow_pos _))
  cases ex : rd x with
  | nan s f => rw [isNaN_iff, ex] at hx; cases hx
  | infinity s =>
    have ed : FloatKind.f64.decode (FloatKind.f64.encode (.infinity s)) = .infinity s := by cases s <;> decide
    refine ⟨FloatKind.f64.encode (.infinity s), r2, FloatKind.f64.encode (.infinity s), ?_, v1, ?_, ?_⟩
    · unfold floatToFloatBits
      rw [if_neg (by decide), show FloatKind.f32.decode x = .infinity s from ex]
    · rw [bits64_quo, v2, ed]
      simp only [Datum.quotient]
      rw [Bool.xor_false]
      rfl
    · have hf : floatBits .quo .f32 x (floatOfInt .f32 (n : Int)) = some (FloatKind.f32.format.write (.infinity s)) := by
        rw [bits_quo, ex, ey]
        simp only [Datum.quotient]
        rw [Bool.xor_false]; rfl
      unfold floatToFloatBits fop
      rw [if_neg (by decide), ed, hf]
      show some (FloatKind.f32.encode (.infinity s)) = some (canon (FloatKind.f32.format.write (.infinity s)))
      cases s <;> decide
  | number s m i =>
    by_cases hm : m = 0
    · subst hm
      obtain ⟨r1, k1, l1, w1, w2, w3, w4, w5⟩ := widen x s 0 i ex
      rw [Nat.zero_mul] at w5
      subst w5
      have hz : ∀ (f : Format) (t : Bool) (q : Int), f.nearest t 0 q = f.word t 0 := fun f t q => by unfold Format.nearest; rw [if_pos rfl]
      have hq : ∀ (g : Nat) (l j : Int) (k : Nat), k ≠ 0 → ∃ q, (Datum.number s 0 l).quotient g (.number false k j) = some (.number s 0 q) := fun g l j k hk => by
        simp only [Datum.quotient]
        rw [if_neg hk, Nat.zero_shiftLeft, Nat.zero_div, Nat.zero_mod, Bool.xor_false]
        exact ⟨_, rfl⟩
      obtain ⟨q1, hq1⟩ := hq 54 l1 l2 k2 hk2
      obtain ⟨q2, hq2⟩ := hq 25 i p n' hn
      refine ⟨r1, r2, FloatKind.f64.format.word s 0, w1, v1, ?_, ?_⟩
      · rw [bits64_quo, w2, v2, hq1, ← hz _ s q1]; rfl
      · have hf : floatBits .quo .f32 x (floatOfInt .f32 (n : Int)) = some (FloatKind.f32.format.word s 0) := by
          rw [bits_quo, ex, ey, hq2, ← hz _ s q2]; rfl
        have hr := nearest_zero FloatKind.f64.format s 0
        rw [hz] at hr
        rw [narrow_eq hr (.inl rfl), hz]
        unfold fop
        rw [hf]
        show some (FloatKind.f32.format.word s 0) = some (canon (FloatKind.f32.format.word s 0))
        cases s <;> decide
    · exact quo_any ex ey hm hn (quo_fin ex hm h1 h2)
end Go.Proofs.Ytlfcedecobebmaa
