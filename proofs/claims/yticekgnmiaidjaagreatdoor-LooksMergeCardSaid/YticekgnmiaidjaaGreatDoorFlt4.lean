/- Singles: how great a written number reads back; magnitude and square root through doubles are told. No program in sight. -/
import Derived.Test.YticekgnmiaidjaaGreatDoorNum
namespace Go.Proofs.YticekgnmiaidjaaGreatDoor

section
open Go.RowKit Ieee

theorem read_word (f : Format) (s : Bool) (r : Nat) (h : r < f.signWeight) : f.read (f.word s r) =
    if r < f.binade then .number s r f.leastPlace else if r < f.infRung then .number s (f.binade + r % f.binade) (f.leastPlace + (r / f.binade - 1 : Nat)) else if r = f.infRung then .infinity s else .nan s (r - f.infRung) := by
  have e1 : (f.word s r / f.signWeight % 2 == 1) = s := by
    unfold Format.word
    cases s
    · rw [if_neg (by simp), Nat.div_eq_of_lt h]; rfl
    · rw [if_pos rfl, Nat.add_div_left _ (by omega), Nat.div_eq_of_lt h]; rfl
  have e2 : f.word s r % f.signWeight = r := by
    unfold Format.word
    cases s
    · rw [if_neg (by simp)]; exact Nat.mod_eq_of_lt h
    · rw [if_pos rfl, Nat.add_mod_left]; exact Nat.mod_eq_of_lt h
  unfold Format.read
  simp only [e1, e2]

theorem cut_none (way : Toward) (neg : Bool) (n : Nat) : way.cut neg n 0 = n := by
  unfold Toward.cut
  rw [Nat.zero_min]
  have h1 : (1 <<< 0 : Nat) = 1 := rfl
  simp only [h1, Nat.div_one, Nat.mod_one]
  cases way <;> simp

theorem log2_le {m b : Nat} (h : m < 2 ^ (b + 1)) : m.log2 ≤ b := by
  by_cases hm : m = 0
  · subst hm; simp
  · have := (Nat.log2_lt hm).2 h
    omega

theorem nearest_exact (f : Format) (s : Bool) (m : Nat) (p last : Int) (hm : m ≠ 0) (hlast : last = max (p + m.log2 - f.fractionBits) f.leastPlace) (hle : last ≤ p)
    (hr : (last - f.leastPlace).toNat * f.binade + m * 2 ^ (p - last).toNat < f.infRung) : f.read (f.nearest s m p) = .number s (m * 2 ^ (p - last).toNat) last := by
  unfold Format.nearest
  rw [if_neg hm]
  simp only [← hlast]
  rw [show (last - p).toNat = 0 by omega, cut_none, Nat.shiftLeft_eq, Nat.min_eq_left (by omega)]
  have hlt := f.infRung_lt
  rw [read_word f s _ (by omega)]
  have hb : 0 < f.binade := Nat.two_pow_pos _
  have hbe : f.binade = 2 ^ f.fractionBits := rfl
  have hk2 : m * 2 ^ (p - last).toNat < 2 * f.binade := by
    have h1 : m < 2 ^ (m.log2 + 1) := Nat.lt_log2_self
    have h2 : m * 2 ^ (p - last).toNat < 2 ^ (m.log2 + 1) * 2 ^ (p - last).toNat := Nat.mul_lt_mul_of_pos_right h1 (Nat.two_pow_pos _)
    rw [← Nat.pow_add] at h2
    have h3 : 2 ^ (m.log2 + 1 + (p - last).toNat) ≤ 2 ^ (f.fractionBits + 1) := Nat.pow_le_pow_right (by omega) (by omega)
    rw [Nat.pow_succ] at h3
    omega
  have hk1 : f.leastPlace < last → f.binade ≤ m * 2 ^ (p - last).toNat := by
    intro hg
    have h1 : 2 ^ m.log2 ≤ m := Nat.log2_self_le hm
    have h2 : 2 ^ m.log2 * 2 ^ (p - last).toNat ≤ m * 2 ^ (p - last).toNat := Nat.mul_le_mul_right _ h1
    rw [← Nat.pow_add] at h2
    have h3 : m.log2 + (p - last).toNat = f.fractionBits := by omega
    rw [h3] at h2
    exact h2
  have hlp : f.leastPlace ≤ last := by omega
  generalize hK : m * 2 ^ (p - last).toNat = K at *
  by_cases hg : f.leastPlace < last
  · have hk := hk1 hg
    generalize hD : (last - f.leastPlace).toNat = D at *
    have hD1 : 1 ≤ D := by omega
    have hDb : f.binade ≤ D * f.binade := Nat.le_mul_of_pos_left _ hD1
    rw [if_neg (by omega), if_pos hr]
    have e1 : (D * f.binade + K) % f.binade = K - f.binade := by
      rw [show D * f.binade + K = (K - f.binade) + (D + 1) * f.binade by rw [Nat.add_mul]; omega, Nat.add_mul_mod_self_right]
      exact Nat.mod_eq_of_lt (by omega)
    have e2 : (D * f.binade + K) / f.binade = D + 1 := by
      rw [show D * f.binade + K = (K - f.binade) + (D + 1) * f.binade by rw [Nat.add_mul]; omega, Nat.add_mul_div_right _ _ hb, Nat.div_eq_of_lt (by omega)]
      omega
    rw [e1, e2]
    congr 1 <;> omega
  · have he : last = f.leastPlace := by omega
    have hD : (last - f.leastPlace).toNat = 0 := by omega
    rw [hD, Nat.zero_mul, Nat.zero_add] at hr ⊢
    by_cases hkb : K < f.binade
    · rw [if_pos hkb, he]
    · rw [if_neg hkb, if_pos hr]
      have e1 : K % f.binade = K - f.binade := by
        rw [show K = (K - f.binade) + 1 * f.binade by omega, Nat.add_mul_mod_self_right]
        rw [show K - f.binade + 1 * f.binade - f.binade = K - f.binade by omega]
        exact Nat.mod_eq_of_lt (by omega)
      have e2 : K / f.binade = 1 := by
        rw [show K = (K - f.binade) + 1 * f.binade by omega, Nat.add_mul_div_right _ _ hb, Nat.div_eq_of_lt (by omega)]
      rw [e1, e2]
      congr 1 <;> omega
theorem nearest_zero (f : Format) (s : Bool) (p : Int) : f.read (f.nearest s 0 p) = .number s 0 f.leastPlace := by
  unfold Format.nearest
  have hb : 0 < f.binade := Nat.two_pow_pos _
  rw [if_pos rfl, read_word f s 0 (Nat.two_pow_pos _), if_pos hb]

theorem f64_binade : FloatKind.f64.format.binade = 4503599627370496 := by decide
theorem f64_inf : FloatKind.f64.format.infRung = 9218868437227405312 := by decide
theorem f64_least : FloatKind.f64.format.leastPlace = -1074 := by decide
theorem f64_frac : FloatKind.f64.format.fractionBits = 52 := rfl

/-- A single that is a number, as a double: the same number. -/
theorem widen (b : Nat) (s : Bool) (m : Nat) (i : Int) (h : rd b = .number s m i) : ∃ r k l, floatToFloatBits .f32 b .f64 = some r ∧ FloatKind.f64.decode r = .number s k l ∧ l ≤ i ∧ -1074 ≤ l ∧ k = m * 2 ^ (i - l).toNat := by
  obtain ⟨h1, h2, h3⟩ := read_bd h
  have hd : FloatKind.f32.decode b = .number s m i := h
  have hne : ¬ (FloatKind.f32 = FloatKind.f64) := by decide
  have fin : ∀ k l, FloatKind.f64.decode (FloatKind.f64.encode (.number s m i)) = .number s k l → floatToFloatBits .f32 b .f64 = some (FloatKind.f64.encode (.number s m i)) := by
    intro k l hh
    unfold floatToFloatBits
    rw [if_neg hne, hd]
    simp only [hh]
    rfl
  by_cases hm : m = 0
  · subst hm
    have e := nearest_zero FloatKind.f64.format s i
    exact ⟨_, 0, -1074, fin 0 _ e, by rw [← f64_least]; exact e, by omega, by omega, by simp⟩
  · have hl : m.log2 ≤ 23 := log2_le (by omega)
    have e := nearest_exact FloatKind.f64.format s m i (max (i + m.log2 - 52) (-1074)) hm (by rw [f64_least, f64_frac]; rfl) (by omega) (by
      rw [f64_binade, f64_inf, f64_least]
      have hp : m * 2 ^ (i - max (i + m.log2 - 52) (-1074)).toNat < 2 ^ 53 := by
        have g1 : m < 2 ^ (m.log2 + 1) := Nat.lt_log2_self
        have g2 : m * 2 ^ (i - max (i + m.log2 - 52) (-1074)).toNat < 2 ^ (m.log2 + 1) * 2 ^ (i - max (i + m.log2 - 52) (-1074)).toNat := Nat.mul_lt_mul_of_pos_right g1 (Nat.two_pow_pos _)
        rw [← Nat.pow_add] at g2
        exact Nat.lt_of_lt_of_le g2 (Nat.pow_le_pow_right (by omega) (by omega))
      generalize m * 2 ^ (i - max (i + m.log2 - 52) (-1074)).toNat = K at *
      have : (max (i + (m.log2 : Int) - 52) (-1074) - -1074).toNat ≤ 1149 := by omega
      have := Nat.mul_le_mul_right 4503599627370496 this
      omega)
    exact ⟨_, _, _, fin _ _ e, e, by omega, by omega, rfl⟩

end

section
open Go.RowKit Ieee

theorem map_some {d : Option Datum} {r : Nat} (h : d.map FloatKind.f32.format.write = some r) : ∃ x, d = some x ∧ r = FloatKind.f32.format.write x := by
  cases d with
  | none => cases h
  | some x => exact ⟨x, rfl, by simpa using h.symm⟩

end

section
open Go.RowKit Ieee

theorem log2_mul_pow {n : Nat} (j : Nat) (hn : n ≠ 0) : (n * 2 ^ j).log2 = n.log2 + j := by
  have h2 : n * 2 ^ j ≠ 0 := Nat.mul_ne_zero hn (Nat.ne_of_gt (Nat.two_pow_pos j))
  have a : n.log2 + j ≤ (n * 2 ^ j).log2 := by
    rw [Nat.le_log2 h2, Nat.pow_add]
    exact Nat.mul_le_mul_right _ (Nat.log2_self_le hn)
  have b : (n * 2 ^ j).log2 < n.log2 + j + 1 := by
    rw [Nat.log2_lt h2, show n.log2 + j + 1 = (n.log2 + 1) + j by omega, Nat.pow_add]
    exact Nat.mul_lt_mul_of_pos_right Nat.lt_log2_self (Nat.two_pow_pos j)
  omega
theorem cut_even (neg : Bool) (n drop g : Nat) (hg : g = min drop (n.log2 + 2)) : Toward.even.cut neg n drop = n / 2 ^ g + (decide (2 ^ g < 2 * (n % 2 ^ g)) || (2 ^ g == 2 * (n % 2 ^ g) && n / 2 ^ g % 2 == 1)).toNat := by
  unfold Toward.cut
  subst hg
  simp only [Nat.shiftLeft_eq, Nat.one_mul]
theorem cut_scale (neg : Bool) {n : Nat} (drop j : Nat) (hn : n ≠ 0) : Toward.even.cut neg (n * 2 ^ j) (drop + j) = Toward.even.cut neg n drop := by
  rw [cut_even neg (n * 2 ^ j) (drop + j) (min drop (n.log2 + 2) + j) (by rw [log2_mul_pow j hn]; omega), cut_even neg n drop _ rfl]
  generalize min drop (n.log2 + 2) = g
  have hp : 0 < 2 ^ j := Nat.two_pow_pos j
  rw [Nat.pow_add, Nat.mul_div_mul_right _ _ hp, Nat.mul_mod_mul_right]
  congr 3
  · rw [decide_eq_decide, ← Nat.mul_assoc]
    exact Nat.mul_lt_mul_right hp
  · congr 1
    rw [Bool.eq_iff_iff, beq_iff_eq, beq_iff_eq, ← Nat.mul_assoc]
    exact Nat.mul_right_cancel_iff hp
theorem cut_exact (neg : Bool) {n : Nat} (j drop : Nat) (hn : n ≠ 0) (h : drop ≤ j) : Toward.even.cut neg (n * 2 ^ j) drop = n * 2 ^ (j - drop) := by
  rw [cut_even neg (n * 2 ^ j) drop drop (by rw [log2_mul_pow j hn]; omega)]
  have e : n * 2 ^ j = n * 2 ^ (j - drop) * 2 ^ drop := by rw [Nat.mul_assoc, ← Nat.pow_add, Nat.sub_add_cancel h]
  have hp : 0 < 2 ^ drop := Nat.two_pow_pos drop
  rw [e, Nat.mul_div_cancel _ hp, Nat.mul_mod_left]
  have h1 : (2 ^ drop == 2 * 0) = false := by simp
  simp [h1]
/-- A number may be told with more digits further down. -/
theorem nearest_scale (f : Format) (s : Bool) (k j : Nat) (p : Int) : f.nearest s (k * 2 ^ j) (p - j) = f.nearest s k p := by
  by_cases hk : k = 0
  · subst hk; rw [Nat.zero_mul]; rfl
  have h2 : k * 2 ^ j ≠ 0 := Nat.mul_ne_zero hk (Nat.ne_of_gt (Nat.two_pow_pos j))
  unfold Format.nearest
  rw [if_neg hk, if_neg h2, log2_mul_pow j hk, show p - (j : Int) + ((k.log2 + j : Nat) : Int) - f.fractionBits = p + k.log2 - f.fractionBits by omega]
  generalize max (p + k.log2 - f.fractionBits) f.leastPlace = last
  have key : Toward.even.cut s ((k * 2 ^ j) <<< (p - j - last).toNat) (last - (p - j)).toNat = Toward.even.cut s (k <<< (p - last).toNat) (last - p).toNat := by
    simp only [Nat.shiftLeft_eq]
    by_cases h1 : last ≤ p - j
    · rw [show (last - (p - j)).toNat = 0 by omega, show (last - p).toNat = 0 by omega, cut_none, cut_none, Nat.mul_assoc, ← Nat.pow_add, show j + (p - j - last).toNat = (p - last).toNat by omega]
    · by_cases h3 : last ≤ p
      · rw [show (p - j - last).toNat = 0 by omega, show (last - p).toNat = 0 by omega, cut_none, Nat.pow_zero, Nat.mul_one, cut_exact s j _ hk (by omega), show j - (last - (p - j)).toNat = (p - last).toNat by omega]
      · rw [show (p - j - last).toNat = 0 by omega, show (p - last).toNat = 0 by omega, Nat.pow_zero, Nat.mul_one, Nat.mul_one, show (last - (p - j)).toNat = (last - p).toNat + j by omega, cut_scale s _ j hk]
  simp only [key]
end

section
open Go.RowKit Ieee

end
end Go.Proofs.YticekgnmiaidjaaGreatDoor
