/- The share of a dissolve is greater than nought and at most one. No program in sight. -/
import Derived.Test.YteebkfdocdmboaaDoorEmQ
namespace Go.Proofs.YteebkfdocdmboaaDoor
open Go.RowKit Ieee

/-- A positive word at most that of one: greater than nought, not greater than one. -/
theorem word_share {r : Nat} {m : Nat} {i : Int} (hr : rd r = .number false m i) (hm : m ≠ 0) (h : r ≤ 1065353216) : (FloatKind.f32.format.order r 0 == some .gt) = true ∧ (FloatKind.f32.format.order r 1065353216 == some .gt) = false ∧ (FloatKind.f32.format.order r 1065353216).isSome = true := by
  have r1 : rd 1065353216 = .number false 8388608 (-23) := by decide
  have r0 : rd 0 = .number false 0 (-149) := by decide
  obtain ⟨_, a1, a2⟩ := rd_units (by omega) hr
  obtain ⟨_, b1, b2⟩ := rd_units (by omega) r1
  refine ⟨?_, ?_, ?_⟩
  · show ((rd r).order (rd 0) == some .gt) = true
    rw [hr, r0]
    simp only [Datum.order]
    rw [signed_pow, signed_pow, if_neg (by simp), if_neg (by simp)]
    have hp : (0 : Int) < (m : Int) * 2 ^ (i - min i (-149)).toNat := Int.mul_pos (by omega) (pow_pos' _)
    rw [show ((0 : Nat) : Int) * 2 ^ (-149 - min i (-149)).toNat = 0 by simp]
    rw [show compare ((m : Int) * 2 ^ (i - min i (-149)).toNat) 0 = .gt from Int.compare_eq_gt.2 hp]
    rfl
  · show ((rd r).order (rd 1065353216) == some .gt) = false
    rw [hr, r1]
    simp only [Datum.order]
    rw [signed_pow, signed_pow, if_neg (by simp), if_neg (by simp)]
    have hle : (m : Int) * 2 ^ (i - min i (-23)).toNat ≤ ((8388608 : Nat) : Int) * 2 ^ (-23 - min i (-23)).toNat := by
      have hu : unitsOf r ≤ unitsOf 1065353216 := by
        rcases Nat.lt_or_eq_of_le h with h1 | h1
        · exact Nat.le_of_lt (units_lt h1)
        · rw [h1]; exact Nat.le_refl _
      rw [← a2, ← b2] at hu
      rw [show (i + 149).toNat = (i - min i (-23)).toNat + (min i (-23) + 149).toNat by omega, show ((-23 : Int) + 149).toNat = (-23 - min i (-23)).toNat + (min i (-23) + 149).toNat by omega, Nat.pow_add, Nat.pow_add, ← Nat.mul_assoc, ← Nat.mul_assoc] at hu
      have := Nat.le_of_mul_le_mul_right hu (Nat.two_pow_pos _)
      exact_mod_cast this
    cases hc : compare ((m : Int) * 2 ^ (i - min i (-23)).toNat) (((8388608 : Nat) : Int) * 2 ^ (-23 - min i (-23)).toNat) with
    | lt => rfl
    | eq => rfl
    | gt => have := Int.compare_eq_gt.1 hc; omega
  · show ((rd r).order (rd 1065353216)).isSome = true
    rw [hr, r1]
    rfl
/-- The word of a share. -/
theorem share_word {a b : Nat} (a1 : 1 ≤ a) (ab : a < b) (b2 : b < 8388608) : fop .quo (floatOfInt .f32 (a : Int)) (floatOfInt .f32 (b : Int)) ≤ 1065353216 ∧ ∃ m i, rd (fop .quo (floatOfInt .f32 (a : Int)) (floatOfInt .f32 (b : Int))) = .number false m i ∧ m ≠ 0 := by
  obtain ⟨_, k0, l0, hnum⟩ := share_dbl a1 (by omega) (by omega) b2
  obtain ⟨⟨s, m, i, ex, va⟩, m', i', ex', _⟩ := ofInt_val (n := (a : Int)) (by omega) (by omega)
  obtain ⟨⟨t, n, j, ey, vb⟩, n', j', ey', _⟩ := ofInt_val (n := (b : Int)) (by omega) (by omega)
  rw [decide_eq_false (by omega)] at ex' ey'
  rw [ex] at ex'
  rw [ey] at ey'
  injection ex' with e1 _ _
  injection ey' with e2 _ _
  subst e1 e2
  have laS := ofInt_log a1 (by omega : a < 8388608)
  have lbS := ofInt_log (by omega : 1 ≤ b) b2
  rw [ex] at laS
  rw [ey] at lbS
  obtain ⟨_, _, hx, hm, la⟩ := laS
  obtain ⟨_, _, hy, hn, lb⟩ := lbS
  injection hx with _ e3 e4
  injection hy with _ e5 e6
  subst e3 e4 e5 e6
  have l1 : a.log2 ≤ 22 := log2_le (by omega)
  have l2 : b.log2 ≤ 22 := log2_le (by omega)
  obtain ⟨m1, m2, _⟩ := read_bd ex
  obtain ⟨n1, n2, _⟩ := read_bd ey
  have lm := log2_small m1
  have ln := log2_small n1
  obtain ⟨T, hT⟩ : ∃ T, T = 25 + n.log2 - m.log2 := ⟨_, rfl⟩
  obtain ⟨X, hX⟩ : ∃ X, X = m * 2 ^ T := ⟨_, rfl⟩
  have n0 : 0 < n := by omega
  have pm1 : 2 ^ m.log2 ≤ m := Nat.log2_self_le hm
  have pm2 : m < 2 ^ (m.log2 + 1) := Nat.lt_log2_self
  have pn1 : 2 ^ n.log2 ≤ n := Nat.log2_self_le hn
  have pn2 : n < 2 ^ (n.log2 + 1) := Nat.lt_log2_self
  have x1 : 2 ^ (25 + n.log2) ≤ X := by
    rw [hX, show 25 + n.log2 = m.log2 + T by omega, Nat.pow_add]
    exact Nat.mul_le_mul_right _ pm1
  have x2 : X < 2 ^ (26 + n.log2) := by
    rw [hX, show 26 + n.log2 = (m.log2 + 1) + T by omega, Nat.pow_add]
    exact Nat.mul_lt_mul_of_pos_right pm2 (Nat.two_pow_pos _)
  obtain ⟨l, hl, hl1, hl2⟩ : ∃ l, (l = 24 ∨ l = 25) ∧ 2 ^ l * n ≤ X ∧ X < 2 ^ (l + 1) * n := by
    have g1 : 2 ^ 24 * n ≤ X := by
      have : 2 ^ 24 * n ≤ 2 ^ 24 * 2 ^ (n.log2 + 1) := Nat.mul_le_mul_left _ (by omega)
      rw [← Nat.pow_add, show 24 + (n.log2 + 1) = 25 + n.log2 by omega] at this
      omega
    have g2 : X < 2 ^ 26 * n := by
      have : 2 ^ 26 * 2 ^ n.log2 ≤ 2 ^ 26 * n := Nat.mul_le_mul_left _ pn1
      rw [← Nat.pow_add] at this
      omega
    rcases Nat.lt_or_ge X (2 ^ 25 * n) with h | h
    · exact ⟨24, .inl rfl, g1, h⟩
    · exact ⟨25, .inr rfl, h, g2⟩
  have n25 := quo_log n0 hl1 hl2 (X % n != 0)
  have e1 : (Datum.number false m i).quotient 25 (.number false n j) = some (.number false (2 * (X / n) + (X % n != 0).toNat) (i - j - T - 1)) := by
    simp only [Datum.quotient]
    rw [if_neg hn, Nat.shiftLeft_eq, ← hT, ← hX]
    rfl
  have hup : i - j - (T : Int) + l ≤ -1 := by
    rcases Int.lt_or_le (i - j - (T : Int) + l) 0 with h | h
    · omega
    exfalso
    have ea := va (min (min i j) (min 0 (i - T))) (by omega) (by omega)
    have eb := vb (min (min i j) (min 0 (i - T))) (by omega) (by omega)
    obtain ⟨c, hc⟩ : ∃ c : Nat, (c : Int) = - min (min i j) (min 0 (i - T)) := ⟨(- min (min i j) (min 0 (i - T))).toNat, by omega⟩
    rw [signed_pow, if_neg (by simp)] at ea eb
    have ea' : m * 2 ^ (i + c).toNat = a * 2 ^ c := by
      rw [show (i - min (min i j) (min 0 (i - T))) = i + c by omega, show (-min (min i j) (min 0 (i - T))).toNat = c by omega] at ea
      exact_mod_cast ea
    have eb' : n * 2 ^ (j + c).toNat = b * 2 ^ c := by
      rw [show (j - min (min i j) (min 0 (i - T))) = j + c by omega, show (-min (min i j) (min 0 (i - T))).toNat = c by omega] at eb
      exact_mod_cast eb
    have hab : a * 2 ^ c < b * 2 ^ c := Nat.mul_lt_mul_of_pos_right ab (Nat.two_pow_pos _)
    have h5 : n * 2 ^ (j + c).toNat ≤ n * 2 ^ (l + (i - T + c).toNat) := Nat.mul_le_mul_left _ (Nat.pow_le_pow_right (by omega) (by omega))
    have h6 : n * 2 ^ (l + (i - T + c).toNat) ≤ m * 2 ^ (i + c).toNat := by
      rw [Nat.pow_add, ← Nat.mul_assoc, Nat.mul_comm n]
      refine Nat.le_trans (Nat.mul_le_mul_right _ hl1) ?_
      rw [hX, Nat.mul_assoc, ← Nat.pow_add, show T + (i - T + c).toNat = (i + c).toNat by omega]
      exact Nat.le_refl _
    omega
  have hlo : -25 ≤ i - j - (T : Int) + l := by
    have h1 : 2 ^ (m.log2 + T) ≤ X := by rw [hX, Nat.pow_add]; exact Nat.mul_le_mul_right _ pm1
    have h2 : X < 2 ^ (l + 1 + (n.log2 + 1)) := by
      rw [Nat.pow_add]
      exact Nat.lt_of_lt_of_le hl2 (Nat.mul_le_mul_left _ (Nat.le_of_lt pn2))
    have h3 : m.log2 + T < l + 1 + (n.log2 + 1) := (Nat.pow_lt_pow_iff_right (by omega : 1 < 2)).1 (Nat.lt_of_le_of_lt h1 h2)
    omega
  have z1 : 2 * (X / n) + (X % n != 0).toNat ≠ 0 := by intro h; rw [h] at n25; simp at n25
  have c1 := nearest_rhe FloatKind.f32.format false (i - j - T - 1) (i - j - T + l - 23) z1 (by rw [f32_least, f32_frac, n25]; omega) (by omega)
  rw [f32_least, f32_binade, f32_inf] at c1
  have zlo : 2 ^ (l + 1) ≤ 2 * (X / n) + (X % n != 0).toNat := by have := Nat.log2_self_le z1; rw [n25] at this; exact this
  have zhi : 2 * (X / n) + (X % n != 0).toNat < 2 ^ (l + 2) := by have := Nat.lt_log2_self (n := 2 * (X / n) + (X % n != 0).toNat); rw [n25] at this; exact this
  rw [show (i - j - (T : Int) + l - 23 - (i - j - T - 1)).toNat = l - 22 by omega] at c1
  have r1 : 8388608 ≤ rhe (2 * (X / n) + (X % n != 0).toNat) (2 ^ (l - 22)) := by
    refine rhe_ge (Nat.two_pow_pos _) ?_
    rw [show (8388608 : Nat) = 2 ^ 23 by rfl, ← Nat.pow_add, show 23 + (l - 22) = l + 1 by omega]
    exact zlo
  have r2 : rhe (2 * (X / n) + (X % n != 0).toNat) (2 ^ (l - 22)) ≤ 16777216 := by
    refine rhe_le (Nat.two_pow_pos _) ?_
    rw [show (16777216 : Nat) = 2 ^ 24 by rfl, ← Nat.pow_add, show 24 + (l - 22) = l + 2 by omega]
    exact Nat.le_of_lt zhi
  have hw : FloatKind.f32.format.nearest false (2 * (X / n) + (X % n != 0).toNat) (i - j - T - 1) = (i - j - (T : Int) + l - 23 - -149).toNat * 8388608 + rhe (2 * (X / n) + (X % n != 0).toNat) (2 ^ (l - 22)) := by
    rw [c1, Nat.min_eq_left (by omega)]
    simp [Format.word]
  have hf : floatBits .quo .f32 (floatOfInt .f32 (a : Int)) (floatOfInt .f32 (b : Int)) = some (FloatKind.f32.format.nearest false (2 * (X / n) + (X % n != 0).toNat) (i - j - T - 1)) := by rw [bits_quo, ex, ey, e1]; rfl
  have hr : fop .quo (floatOfInt .f32 (a : Int)) (floatOfInt .f32 (b : Int)) = canon (FloatKind.f32.format.nearest false (2 * (X / n) + (X % n != 0).toNat) (i - j - T - 1)) := by unfold fop; rw [hf]; rfl
  have hF : fop .quo (floatOfInt .f32 (a : Int)) (floatOfInt .f32 (b : Int)) = FloatKind.f32.format.nearest false (2 * (X / n) + (X % n != 0).toNat) (i - j - T - 1) := by
    rw [hr]
    obtain ⟨k, l', hk⟩ := finite_write false (2 * (X / n) + (X % n != 0).toNat) (i - j - T - 1) (.inr (by rw [n25]; omega))
    exact canon_of_num (by rw [isNaN_iff, hk]; rfl)
  rw [hF] at hnum ⊢
  rw [hw] at hnum ⊢
  refine ⟨by omega, k0, l0, hnum, ?_⟩
  rintro rfl
  obtain ⟨_, _, hu⟩ := rd_units (by omega) hnum
  have h0 := units_lt (a := 0) (b := (i - j - (T : Int) + l - 23 - -149).toNat * 8388608 + rhe (2 * (X / n) + (X % n != 0).toNat) (2 ^ (l - 22))) (by omega)
  rw [Nat.zero_mul] at hu
  omega
theorem share_ok {es : List Ev} (hok : evsTo es es.length = 0) {f : Int} {k : Nat} (hk : atK es f = some k) : (FloatKind.f32.format.order (shOf es f k).share 0 == some .gt) = true ∧ (FloatKind.f32.format.order (shOf es f k).share 1065353216 == some .gt) = false ∧ (FloatKind.f32.format.order (shOf es f k).share 1065353216).isSome = true := by
  have hk' := hk
  unfold atK at hk'
  rw [List.find?_range_eq_some] at hk'
  obtain ⟨hh, hkl, _⟩ := hk'
  have hkl := List.mem_range.1 hkl
  unfold hit at hh
  simp only [Bool.and_eq_true, decide_eq_true_eq] at hh
  obtain ⟨b1, b2, b3, b4, b5, b6, b7⟩ := ev_bd hok hkl
  unfold shOf
  simp only
  split
  · rename_i hd
    unfold shareB
    obtain ⟨a, ha⟩ : ∃ a : Nat, f - (es.getD k default).pos + 1 = (a : Int) := ⟨(f - (es.getD k default).pos + 1).toNat, by omega⟩
    obtain ⟨b, hb⟩ : ∃ b : Nat, (es.getD k default).len + 1 = (b : Int) := ⟨((es.getD k default).len + 1).toNat, by omega⟩
    rw [ha, hb]
    obtain ⟨h1, m, i, h2, h3⟩ := share_word (a := a) (b := b) (by omega) (by omega) (by omega)
    exact word_share h2 h3 h1
  · exact word_share (show rd 1065353216 = .number false 8388608 (-23) by decide) (by decide) (Nat.le_refl _)
end Go.Proofs.YteebkfdocdmboaaDoor
