/- A sum and a quotient of two singles by way of doubles. No program in sight. -/
import Derived.Test.YteebkfdocdmboaaDoorDbl2
import Derived.Test.YteebkfdocdmboaaDoorWnP
namespace Go.Proofs.YteebkfdocdmboaaDoor
open Go.RowKit Ieee

theorem sum_wide (s t : Bool) (m n : Nat) {i j l1 l2 : Int} (h1 : l1 ≤ i) (h2 : l2 ≤ j) : ∃ (sg : Bool) (T c : Nat), (Datum.number s m i).sum (.number t n j) = some (.number sg T (min i j)) ∧
    (Datum.number s (m * 2 ^ (i - l1).toNat) l1).sum (.number t (n * 2 ^ (j - l2).toNat) l2) = some (.number sg (T * 2 ^ c) (min i j - (c : Int))) ∧ T = (signed s m (i - min i j).toNat + signed t n (j - min i j).toNat).natAbs := by
  obtain ⟨c, hc⟩ : ∃ c, c = (min i j - min l1 l2).toNat := ⟨_, rfl⟩
  have e1 : signed s (m * 2 ^ (i - l1).toNat) (l1 - min l1 l2).toNat = signed s m (i - min i j).toNat * 2 ^ c := by
    rw [signed_pow, signed_pow, Int.mul_assoc, ← Int.pow_add]
    push_cast
    rw [show (i - min i j).toNat + c = (i - l1).toNat + (l1 - min l1 l2).toNat by omega, Int.pow_add, ← Int.mul_assoc]
    congr 1
    split
    · rw [Int.neg_mul]
    · rfl
  have e2 : signed t (n * 2 ^ (j - l2).toNat) (l2 - min l1 l2).toNat = signed t n (j - min i j).toNat * 2 ^ c := by
    rw [signed_pow, signed_pow, Int.mul_assoc, ← Int.pow_add]
    push_cast
    rw [show (j - min i j).toNat + c = (j - l2).toNat + (l2 - min l1 l2).toNat by omega, Int.pow_add, ← Int.mul_assoc]
    congr 1
    split
    · rw [Int.neg_mul]
    · rfl
  refine ⟨_, _, c, rfl, ?_, rfl⟩
  simp only [Datum.sum]
  rw [e1, e2, ← Int.add_mul]
  generalize signed s m (i - min i j).toNat + signed t n (j - min i j).toNat = total
  have hp : (0 : Int) < 2 ^ c := pow_pos' c
  have a1 : (total * 2 ^ c).natAbs = total.natAbs * 2 ^ c := by rw [Int.natAbs_mul, Int.natAbs_pow]; rfl
  have a2 : (total * 2 ^ c = 0) = (total = 0) := by
    apply propext
    constructor
    · intro h; rcases Int.mul_eq_zero.1 h with h | h; · exact h
      · omega
    · rintro rfl; exact Int.zero_mul _
  have a3 : (total * 2 ^ c < 0) = (total < 0) := by
    apply propext
    constructor
    · intro h
      rcases Int.lt_or_le total 0 with h0 | h0
      · exact h0
      · have := Int.mul_nonneg h0 (Int.le_of_lt hp); omega
    · intro h; exact Int.mul_neg_of_neg_of_pos h hp
  rw [a1, show min l1 l2 = min i j - (c : Int) by omega]
  simp only [a2, a3]

/-- The magnitude of a sum. -/
theorem sum_parts (s t : Bool) (m n : Nat) (i j : Int) (hm : m < 16777216) (hn : n < 16777216) :
    ∃ A b D, A < 16777216 ∧ b < 16777216 ∧ ((signed s m (i - min i j).toNat + signed t n (j - min i j).toNat).natAbs = A * 2 ^ D + b ∨ (signed s m (i - min i j).toNat + signed t n (j - min i j).toNat).natAbs + b = A * 2 ^ D ∨ (signed s m (i - min i j).toNat + signed t n (j - min i j).toNat).natAbs ≤ b) := by
  have e : ∀ (s : Bool) (m k : Nat), signed s m k = if s then -((m * 2 ^ k : Nat) : Int) else ((m * 2 ^ k : Nat) : Int) := by
    intro s m k
    unfold signed
    rw [Nat.shiftLeft_eq]
  rcases Int.lt_or_le i j with h | h
  · refine ⟨n, m, (j - min i j).toNat, hn, hm, ?_⟩
    rw [e, e, show (i - min i j).toNat = 0 by omega, Nat.pow_zero, Nat.mul_one]
    generalize n * 2 ^ (j - min i j).toNat = M
    cases s <;> cases t <;> simp only [Bool.false_eq_true, if_false, if_true] <;> omega
  · refine ⟨m, n, (i - min i j).toNat, hm, hn, ?_⟩
    rw [e, e, show (j - min i j).toNat = 0 by omega, Nat.pow_zero, Nat.mul_one]
    generalize m * 2 ^ (i - min i j).toNat = M
    cases s <;> cases t <;> simp only [Bool.false_eq_true, if_false, if_true] <;> omega
theorem log2_small {b : Nat} (h : b < 16777216) : b.log2 ≤ 23 := log2_le h
theorem log2_mono {a b : Nat} (h : a ≤ b) (h0 : b ≠ 0) : a.log2 ≤ b.log2 := by
  by_cases ha : a = 0
  · subst ha; simp
  · exact (Nat.le_log2 h0).2 (Nat.le_trans (Nat.log2_self_le ha) h)
/-- A single that is not too great. -/
def SmB (k : Int) (b : Nat) : Prop := ∃ s m i, rd b = .number s m i ∧ (m = 0 ∨ i + m.log2 ≤ k)
/-- How great a sum is. -/
theorem sum_bound {s t : Bool} {m n : Nat} {i' j' k : Int} (h1 : m = 0 ∨ i' + m.log2 ≤ k) (h2 : n = 0 ∨ j' + n.log2 ≤ k) {T : Nat} (hT : T = (signed s m (i' - min i' j').toNat + signed t n (j' - min i' j').toNat).natAbs) : T = 0 ∨ min i' j' + T.log2 ≤ k + 1 := by
  by_cases hT0 : T = 0
  · exact .inl hT0
  right
  have e : ∀ (s : Bool) (m k : Nat), (signed s m k).natAbs = m * 2 ^ k := by
    intro s m k
    unfold signed
    rw [Nat.shiftLeft_eq]
    split
    · rw [Int.natAbs_neg, Int.natAbs_natCast]
    · rw [Int.natAbs_natCast]
  have hle : T ≤ m * 2 ^ (i' - min i' j').toNat + n * 2 ^ (j' - min i' j').toNat := by
    rw [hT, ← e s, ← e t]; omega
  have one : ∀ (m : Nat) (i : Int), min i' j' ≤ i → (m = 0 ∨ i + m.log2 ≤ k) → m * 2 ^ (i - min i' j').toNat < 2 ^ (k - min i' j' + 1).toNat := by
    intro m i hi h
    rcases h with rfl | h
    · rw [Nat.zero_mul]; exact Nat.two_pow_pos _
    · have h3 : m * 2 ^ (i - min i' j').toNat < 2 ^ (m.log2 + 1) * 2 ^ (i - min i' j').toNat := Nat.mul_lt_mul_of_pos_right Nat.lt_log2_self (Nat.two_pow_pos _)
      rw [← Nat.pow_add] at h3
      exact Nat.lt_of_lt_of_le h3 (Nat.pow_le_pow_right (by omega) (by omega))
  have a := one m i' (by omega) h1
  have b := one n j' (by omega) h2
  by_cases hk : k - min i' j' + 1 < 0
  · rw [show (k - min i' j' + 1).toNat = 0 by omega] at a b
    omega
  · have hT2 : T.log2 ≤ (k - min i' j' + 1).toNat := log2_le (by rw [Nat.pow_succ]; omega)
    omega
theorem bits64_add (x y : Nat) : floatBits .add .f64 x y = ((FloatKind.f64.decode x).sum (FloatKind.f64.decode y)).map FloatKind.f64.format.write := rfl
theorem bits64_quo (x y : Nat) : floatBits .quo .f64 x y = ((FloatKind.f64.decode x).quotient 54 (FloatKind.f64.decode y)).map FloatKind.f64.format.write := rfl
theorem read64_bd {b : Nat} {s : Bool} {m : Nat} {i : Int} (h : FloatKind.f64.decode b = .number s m i) : m < 2 ^ 53 := by
  unfold FloatKind.decode Format.read at h
  rw [f64_binade, f64_inf] at h
  have c53 : (2 : Nat) ^ 53 = 9007199254740992 := rfl
  simp only at h
  split at h
  · simp only [Datum.number.injEq] at h; omega
  · split at h
    · simp only [Datum.number.injEq] at h; omega
    · split at h <;> cases h
/-- A sum by way of doubles is the sum. -/
theorem add_dbl {x y : Nat} {k : Int} (hx : SmB k x) (hy : SmB k y) (hk : k ≤ 100) : (∃ r1 r2 r3, floatToFloatBits .f32 x .f64 = some r1 ∧ floatToFloatBits .f32 y .f64 = some r2 ∧ floatBits .add .f64 r1 r2 = some r3 ∧ floatToFloatBits .f64 r3 .f32 = some (fop .add x y)) ∧ SmB (k + 2) (fop .add x y) := by
  obtain ⟨s, m, i, ex, bx⟩ := hx
  obtain ⟨t, n, j, ey, by'⟩ := hy
  obtain ⟨m1, m2, _⟩ := read_bd ex
  obtain ⟨n1, n2, _⟩ := read_bd ey
  obtain ⟨r1, k1, l1, w1, w2, w3, w4, w5⟩ := widen x s m i ex
  obtain ⟨r2, k2, l2, v1, v2, v3, v4, v5⟩ := widen y t n j ey
  obtain ⟨sg, T, c, e1, e2, e3⟩ := sum_wide s t m n w3 v3
  have hb := sum_bound bx by' e3
  have hf : floatBits .add .f32 x y = some (FloatKind.f32.format.nearest sg T (min i j)) := by rw [bits_add, ex, ey, e1]; rfl
  obtain ⟨k', l', hr⟩ := finite_write sg T (min i j) (hb.imp id fun h => by omega)
  have hF : fop .add x y = FloatKind.f32.format.nearest sg T (min i j) := by
    unfold fop
    rw [hf]
    exact canon_of_num (by rw [isNaN_iff, hr]; rfl)
  rw [hF]
  refine ⟨⟨r1, r2, FloatKind.f64.format.nearest sg T (min i j), w1, v1, ?_, ?_⟩, ?_⟩
  · rw [bits64_add, w2, v2, w5, v5, e2]
    show some (FloatKind.f64.format.nearest sg (T * 2 ^ c) (min i j - (c : Int))) = _
    rw [nearest_scale]
  · by_cases hL : T.log2 ≤ 52
    · exact dbl_exact sg hL (by omega) (hb.imp id fun h => by omega)
    · have hT0 : T ≠ 0 := by rintro rfl; simp at hL
      have hb : min i j + T.log2 ≤ k + 1 := hb.resolve_left hT0
      refine dbl_long sg (by omega) (by omega) (by omega) (rhe_twice (Nat.two_pow_pos _) (by omega) ?_)
      obtain ⟨A, b, D, hA, hbb, hc⟩ := sum_parts s t m n i j m1 n1
      rw [← e3] at hc
      rcases hc with h | h | h
      · exact sum_tie (.inl h) hA hbb (by omega)
      · exact sum_tie (.inr h) hA hbb (by omega)
      · have : T.log2 ≤ 23 := log2_small (by omega)
        omega
  · by_cases hT0 : T = 0
    · refine ⟨sg, 0, FloatKind.f32.format.leastPlace, ?_, .inl rfl⟩
      rw [hT0]
      exact nearest_zero _ _ _
    · refine ⟨sg, k', l', hr, ?_⟩
      have hw := write_bound FloatKind.f32.format f32_rungs hT0 hr
      rcases hw with h | h
      · exact .inl h
      · right
        rcases hb with h2 | h2
        · exact absurd h2 hT0
        · omega

theorem quo_log {X n l : Nat} (hn : 0 < n) (h1 : 2 ^ l * n ≤ X) (h2 : X < 2 ^ (l + 1) * n) (c : Bool) : (2 * (X / n) + c.toNat).log2 = l + 1 := by
  have a : 2 ^ l ≤ X / n := by rw [Nat.le_div_iff_mul_le hn]; exact h1
  have b : X / n < 2 ^ (l + 1) := by rw [Nat.div_lt_iff_lt_mul hn]; exact h2
  have hc : c.toNat ≤ 1 := by cases c <;> decide
  have e1 : (2 : Nat) ^ (l + 1) = 2 * 2 ^ l := by rw [Nat.pow_succ, Nat.mul_comm]
  have e2 : (2 : Nat) ^ (l + 1 + 1) = 2 * 2 ^ (l + 1) := by rw [Nat.pow_succ, Nat.mul_comm]
  exact log2_is (by omega) (by omega)
/-- A quotient by way of doubles is the quotient. -/
theorem quo_dbl {x y : Nat} {s t : Bool} {m n : Nat} {i j : Int} (ex : rd x = .number s m i) (ey : rd y = .number t n j) (hm : m ≠ 0) (hn : n ≠ 0) (b1 : -125 ≤ i + m.log2 - (j + n.log2)) (b2 : i + m.log2 - (j + n.log2) ≤ 120) :
    (∃ r1 r2 r3, floatToFloatBits .f32 x .f64 = some r1 ∧ floatToFloatBits .f32 y .f64 = some r2 ∧ floatBits .quo .f64 r1 r2 = some r3 ∧ floatToFloatBits .f64 r3 .f32 = some (fop .quo x y)) ∧ SmB (i + m.log2 - (j + n.log2) + 1) (fop .quo x y) ∧ ∃ k l, rd (fop .quo x y) = .number (s ^^ t) k l := by
  obtain ⟨m1, m2, _⟩ := read_bd ex
  obtain ⟨n1, n2, _⟩ := read_bd ey
  have lm := log2_small m1
  have ln := log2_small n1
  obtain ⟨r1, k1, l1, w1, w2, w3, w4, w5⟩ := widen x s m i ex
  obtain ⟨r2, k2, l2, v1, v2, v3, v4, v5⟩ := widen y t n j ey
  have hk1 : k1.log2 ≤ 52 := log2_le (read64_bd w2)
  rw [w5, log2_mul_pow _ hm] at hk1
  obtain ⟨T, hT⟩ : ∃ T, T = 25 + n.log2 - m.log2 := ⟨_, rfl⟩
  obtain ⟨X, hX⟩ : ∃ X, X = m * 2 ^ T := ⟨_, rfl⟩
  have n0 : 0 < n := by omega
  -- how long the quotient is
  have pm1 : 2 ^ m.log2 ≤ m := Nat.log2_self_le hm
  have pm2 : m < 2 ^ (m.log2 + 1) := Nat.lt_log2_self
  have pn1 : 2 ^ n.log2 ≤ n := Nat.log2_self_le hn
  have pn2 : n < 2 ^ (n.log2 + 1) := Nat.lt_log2_self
  have x1 : 2 ^ (25 + n.log2) ≤ X := by
    rw [hX, show 25 + n.log2 = m.log2 + T by omega, Nat.pow_add]
    exact Nat.mul_le_mul_right _ pm1
  have x2 : X < 2 ^ (26 + n.log2) := by
    rw [hX, show 26 + n.log2 = (m.log2 + 1) + T by omega, Nat.pow_add]
    exact Nat.mul_lt_mul_of_pos_right pm2 (Nat.two_pow_pos _)
  obtain ⟨l, hl, hl1, hl2⟩ : ∃ l, (l = 24 ∨ l = 25) ∧ 2 ^ l * n ≤ X ∧ X < 2 ^ (l + 1) * n := by
    have g1 : 2 ^ 24 * n ≤ X := by
      have : 2 ^ 24 * n ≤ 2 ^ 24 * 2 ^ (n.log2 + 1) := Nat.mul_le_mul_left _ (by omega)
      rw [← Nat.pow_add, show 24 + (n.log2 + 1) = 25 + n.log2 by omega] at this
      omega
    have g2 : X < 2 ^ 26 * n := by
      have : 2 ^ 26 * 2 ^ n.log2 ≤ 2 ^ 26 * n := Nat.mul_le_mul_left _ pn1
      rw [← Nat.pow_add] at this
      omega
    rcases Nat.lt_or_ge X (2 ^ 25 * n) with h | h
    · exact ⟨24, .inl rfl, g1, h⟩
    · exact ⟨25, .inr rfl, h, g2⟩
  have n25 := quo_log n0 hl1 hl2 (X % n != 0)
  obtain ⟨Y, hY⟩ : ∃ Y, Y = X * 2 ^ 29 := ⟨_, rfl⟩
  have n54 := quo_log (X := Y) (l := l + 29) n0 (by rw [hY, Nat.pow_add, Nat.mul_right_comm]; exact Nat.mul_le_mul_right _ hl1) (by rw [hY, show l + 29 + 1 = (l + 1) + 29 by omega, Nat.pow_add, Nat.mul_right_comm]; exact Nat.mul_lt_mul_of_pos_right hl2 (Nat.two_pow_pos _)) (Y % n != 0)
  have e1 : (Datum.number s m i).quotient 25 (.number t n j) = some (.number (s ^^ t) (2 * (X / n) + (X % n != 0).toNat) (i - j - T - 1)) := by
    simp only [Datum.quotient]
    rw [if_neg hn, Nat.shiftLeft_eq, ← hT, ← hX]
  have e2 : (Datum.number s k1 l1).quotient 54 (.number t k2 l2) = some (.number (s ^^ t) (2 * (Y / n) + (Y % n != 0).toNat) (i - j - T - 30)) := by
    have hk2 : k2 ≠ 0 := by rw [v5]; exact Nat.mul_ne_zero hn (Nat.ne_of_gt (Nat.two_pow_pos _))
    simp only [Datum.quotient]
    rw [if_neg hk2, Nat.shiftLeft_eq]
    obtain ⟨more, hmore⟩ : ∃ more, more = 54 + k2.log2 - k1.log2 := ⟨_, rfl⟩
    rw [← hmore]
    have hmm : more = 54 + (n.log2 + (j - l2).toNat) - (m.log2 + (i - l1).toNat) := by rw [hmore, w5, v5, log2_mul_pow _ hm, log2_mul_pow _ hn]
    have eY : k1 * 2 ^ more = Y * 2 ^ (j - l2).toNat := by
      rw [w5, hY, hX, Nat.mul_assoc, Nat.mul_assoc, Nat.mul_assoc, ← Nat.pow_add, ← Nat.pow_add, ← Nat.pow_add]
      congr 2; omega
    have hp : 0 < 2 ^ (j - l2).toNat := Nat.two_pow_pos _
    have eb : ∀ a : Nat, (a * 2 ^ (j - l2).toNat != 0) = (a != 0) := by
      intro a
      rw [Bool.eq_iff_iff, bne_iff_ne, bne_iff_ne]
      constructor
      · rintro h rfl; exact h (Nat.zero_mul _)
      · intro h; exact Nat.mul_ne_zero h (by omega)
    rw [eY, v5, Nat.mul_div_mul_right _ _ hp, Nat.mul_mod_mul_right, eb]
    congr 2
    omega
  have hsame : FloatKind.f32.format.nearest (s ^^ t) (2 * (Y / n) + (Y % n != 0).toNat) (i - j - T - 30) = FloatKind.f32.format.nearest (s ^^ t) (2 * (X / n) + (X % n != 0).toNat) (i - j - T - 1) := by
    have z1 : 2 * (X / n) + (X % n != 0).toNat ≠ 0 := by intro h; rw [h] at n25; simp at n25
    have z2 : 2 * (Y / n) + (Y % n != 0).toNat ≠ 0 := by intro h; rw [h] at n54; simp at n54
    have c1 := nearest_rhe FloatKind.f32.format (s ^^ t) (i - j - T - 1) (i - j - T - 1 + (l - 22)) z1 (by rw [f32_least, f32_frac, n25]; omega) (by omega)
    have c2 := nearest_rhe FloatKind.f32.format (s ^^ t) (i - j - T - 30) (i - j - T - 1 + (l - 22)) z2 (by rw [f32_least, f32_frac, n54]; omega) (by omega)
    rw [show (i - j - (T : Int) - 1 + ((l : Int) - 22) - (i - j - T - 1)).toNat = (l - 24) + 2 by omega, rhe_sticky n0] at c1
    rw [show (i - j - (T : Int) - 1 + ((l : Int) - 22) - (i - j - T - 30)).toNat = (l + 5) + 2 by omega, rhe_sticky n0] at c2
    have e5 : n * 2 ^ (l + 5 + 1) = n * 2 ^ (l - 24 + 1) * 2 ^ 29 := by rw [Nat.mul_assoc, ← Nat.pow_add]; congr 2; omega
    have e6 : rhe Y (n * 2 ^ (l + 5 + 1)) = rhe X (n * 2 ^ (l - 24 + 1)) := by rw [e5, hY, rhe_mul _ _ _ (Nat.two_pow_pos 29)]
    rw [c1, c2, e6]
  have hlong : floatToFloatBits .f64 (FloatKind.f64.format.nearest (s ^^ t) (2 * (Y / n) + (Y % n != 0).toNat) (i - j - T - 30)) .f32 = some (FloatKind.f32.format.nearest (s ^^ t) (2 * (Y / n) + (Y % n != 0).toNat) (i - j - T - 30)) := by
    refine dbl_long (s ^^ t) (by omega) (by rw [n54]; omega) (by rw [n54]; omega) ?_
    have hbig : 4503599627370496 ≤ rhe (2 * (Y / n) + (Y % n != 0).toNat) (2 ^ (l + 29 + 1 - 52)) := by
      refine rhe_ge (Nat.two_pow_pos _) ?_
      have hz : 2 * (Y / n) + (Y % n != 0).toNat ≠ 0 := by intro h; rw [h] at n54; simp at n54
      have := Nat.log2_self_le hz
      rw [n54] at this
      rw [show (4503599627370496 : Nat) = 2 ^ 52 by rfl, ← Nat.pow_add, show 52 + (l + 29 + 1 - 52) = l + 29 + 1 by omega]
      exact this
    rw [n54]
    rw [show l + 29 + 1 - 52 = (l - 24) + 2 by omega] at hbig ⊢
    have e6 : (2 : Nat) ^ (l - 24 + 2) * (2 * 268435456) = 2 ^ ((l - 24 + 29) + 2) := by rw [show (2 * 268435456 : Nat) = 2 ^ 29 by rfl, ← Nat.pow_add]
    rw [e6, rhe_sticky n0, rhe_sticky n0]
    rw [rhe_sticky n0] at hbig
    have e7 : n * 2 ^ (l - 24 + 29 + 1) = n * 2 ^ (l - 24 + 1) * (2 * 268435456) := by rw [show (2 * 268435456 : Nat) = 2 ^ 29 by rfl, Nat.mul_assoc, ← Nat.pow_add]
    rw [e7]
    have hYm : Y = m * 2 ^ (T + 29) := by rw [hY, hX, Nat.mul_assoc, ← Nat.pow_add]
    refine rhe_twice (Nat.mul_pos n0 (Nat.two_pow_pos _)) (by omega) ?_
    rw [hYm] at hbig ⊢
    exact quo_tie m1 n0 n1 rfl hbig
  have hf : floatBits .quo .f32 x y = some (FloatKind.f32.format.nearest (s ^^ t) (2 * (X / n) + (X % n != 0).toNat) (i - j - T - 1)) := by rw [bits_quo, ex, ey, e1]; rfl
  obtain ⟨k', l', hr⟩ := finite_write (s ^^ t) (2 * (X / n) + (X % n != 0).toNat) (i - j - T - 1) (by right; rw [n25]; omega)
  have hF : fop .quo x y = FloatKind.f32.format.nearest (s ^^ t) (2 * (X / n) + (X % n != 0).toNat) (i - j - T - 1) := by
    unfold fop
    rw [hf]
    exact canon_of_num (by rw [isNaN_iff, hr]; rfl)
  rw [hF]
  refine ⟨⟨r1, r2, _, w1, v1, ?_, hlong.trans (by rw [hsame])⟩, ⟨_, _, _, hr, ?_⟩, k', l', hr⟩
  · rw [bits64_quo, w2, v2, e2]; rfl
  · have hz : 2 * (X / n) + (X % n != 0).toNat ≠ 0 := by intro h; rw [h] at n25; simp at n25
    have hw := write_bound FloatKind.f32.format f32_rungs hz hr
    rcases hw with h | h
    · exact .inl h
    · right; rw [n25] at h; omega
end Go.Proofs.YteebkfdocdmboaaDoor
