/- Words of a float format: written and read back; a single made a double; the whole part of a small single. No program in sight. -/
import Derived.Test.YteebkfdocdmboaaDoorNum
namespace Go.Proofs.YteebkfdocdmboaaDoor
open Go.RowKit Ieee

theorem read_word (f : Format) (s : Bool) (r : Nat) (h : r < f.signWeight) : f.read (f.word s r) =
    if r < f.binade then .number s r f.leastPlace else if r < f.infRung then .number s (f.binade + r % f.binade) (f.leastPlace + (r / f.binade - 1 : Nat)) else if r = f.infRung then .infinity s else .nan s (r - f.infRung) := by
  have e1 : (f.word s r / f.signWeight % 2 == 1) = s := by
    unfold Format.word
    cases s
    · rw [if_neg (by simp), Nat.div_eq_of_lt h]; rfl
    · rw [if_pos rfl, Nat.add_div_left _ (by omega), Nat.div_eq_of_lt h]; rfl
  have e2 : f.word s r % f.signWeight = r := by
    unfold Format.word
    cases s
    · rw [if_neg (by simp)]; exact Nat.mod_eq_of_lt h
    · rw [if_pos rfl, Nat.add_mod_left]; exact Nat.mod_eq_of_lt h
  unfold Format.read
  simp only [e1, e2]

theorem cut_none (way : Toward) (neg : Bool) (n : Nat) : way.cut neg n 0 = n := by
  unfold Toward.cut
  rw [Nat.zero_min]
  have h1 : (1 <<< 0 : Nat) = 1 := rfl
  simp only [h1, Nat.div_one, Nat.mod_one]
  cases way <;> simp

theorem log2_le {m b : Nat} (h : m < 2 ^ (b + 1)) : m.log2 ≤ b := by
  by_cases hm : m = 0
  · subst hm; simp
  · have := (Nat.log2_lt hm).2 h
    omega

theorem nearest_exact (f : Format) (s : Bool) (m : Nat) (p last : Int) (hm : m ≠ 0) (hlast : last = max (p + m.log2 - f.fractionBits) f.leastPlace) (hle : last ≤ p)
    (hr : (last - f.leastPlace).toNat * f.binade + m * 2 ^ (p - last).toNat < f.infRung) : f.read (f.nearest s m p) = .number s (m * 2 ^ (p - last).toNat) last := by
  unfold Format.nearest
  rw [if_neg hm]
  simp only [← hlast]
  rw [show (last - p).toNat = 0 by omega, cut_none, Nat.shiftLeft_eq, Nat.min_eq_left (by omega)]
  have hlt := f.infRung_lt
  rw [read_word f s _ (by omega)]
  have hb : 0 < f.binade := Nat.two_pow_pos _
  have hbe : f.binade = 2 ^ f.fractionBits := rfl
  have hk2 : m * 2 ^ (p - last).toNat < 2 * f.binade := by
    have h1 : m < 2 ^ (m.log2 + 1) := Nat.lt_log2_self
    have h2 : m * 2 ^ (p - last).toNat < 2 ^ (m.log2 + 1) * 2 ^ (p - last).toNat := Nat.mul_lt_mul_of_pos_right h1 (Nat.two_pow_pos _)
    rw [← Nat.pow_add] at h2
    have h3 : 2 ^ (m.log2 + 1 + (p - last).toNat) ≤ 2 ^ (f.fractionBits + 1) := Nat.pow_le_pow_right (by omega) (by omega)
    rw [Nat.pow_succ] at h3
    omega
  have hk1 : f.leastPlace < last → f.binade ≤ m * 2 ^ (p - last).toNat := by
    intro hg
    have h1 : 2 ^ m.log2 ≤ m := Nat.log2_self_le hm
    have h2 : 2 ^ m.log2 * 2 ^ (p - last).toNat ≤ m * 2 ^ (p - last).toNat := Nat.mul_le_mul_right _ h1
    rw [← Nat.pow_add] at h2
    have h3 : m.log2 + (p - last).toNat = f.fractionBits := by omega
    rw [h3] at h2
    exact h2
  have hlp : f.leastPlace ≤ last := by omega
  generalize hK : m * 2 ^ (p - last).toNat = K at *
  by_cases hg : f.leastPlace < last
  · have hk := hk1 hg
    generalize hD : (last - f.leastPlace).toNat = D at *
    have hD1 : 1 ≤ D := by omega
    have hDb : f.binade ≤ D * f.binade := Nat.le_mul_of_pos_left _ hD1
    rw [if_neg (by omega), if_pos hr]
    have e1 : (D * f.binade + K) % f.binade = K - f.binade := by
      rw [show D * f.binade + K = (K - f.binade) + (D + 1) * f.binade by rw [Nat.add_mul]; omega, Nat.add_mul_mod_self_right]
      exact Nat.mod_eq_of_lt (by omega)
    have e2 : (D * f.binade + K) / f.binade = D + 1 := by
      rw [show D * f.binade + K = (K - f.binade) + (D + 1) * f.binade by rw [Nat.add_mul]; omega, Nat.add_mul_div_right _ _ hb, Nat.div_eq_of_lt (by omega)]
      omega
    rw [e1, e2]
    congr 1 <;> omega
  · have he : last = f.leastPlace := by omega
    have hD : (last - f.leastPlace).toNat = 0 := by omega
    rw [hD, Nat.zero_mul, Nat.zero_add] at hr ⊢
    by_cases hkb : K < f.binade
    · rw [if_pos hkb, he]
    · rw [if_neg hkb, if_pos hr]
      have e1 : K % f.binade = K - f.binade := by
        rw [show K = (K - f.binade) + 1 * f.binade by omega, Nat.add_mul_mod_self_right]
        rw [show K - f.binade + 1 * f.binade - f.binade = K - f.binade by omega]
        exact Nat.mod_eq_of_lt (by omega)
      have e2 : K / f.binade = 1 := by
        rw [show K = (K - f.binade) + 1 * f.binade by omega, Nat.add_mul_div_right _ _ hb, Nat.div_eq_of_lt (by omega)]
      rw [e1, e2]
      congr 1 <;> omega
theorem nearest_zero (f : Format) (s : Bool) (p : Int) : f.read (f.nearest s 0 p) = .number s 0 f.leastPlace := by
  unfold Format.nearest
  have hb : 0 < f.binade := Nat.two_pow_pos _
  rw [if_pos rfl, read_word f s 0 (Nat.two_pow_pos _), if_pos hb]

theorem f64_binade : FloatKind.f64.format.binade = 4503599627370496 := by decide
theorem f64_inf : FloatKind.f64.format.infRung = 9218868437227405312 := by decide
theorem f64_least : FloatKind.f64.format.leastPlace = -1074 := by decide
theorem f64_frac : FloatKind.f64.format.fractionBits = 52 := rfl

/-- A single that is a number, as a double: the same number. -/
theorem widen (b : Nat) (s : Bool) (m : Nat) (i : Int) (h : rd b = .number s m i) : ∃ r k l, floatToFloatBits .f32 b .f64 = some r ∧ FloatKind.f64.decode r = .number s k l ∧ l ≤ i ∧ -1074 ≤ l ∧ k = m * 2 ^ (i - l).toNat := by
  obtain ⟨h1, h2, h3⟩ := read_bd h
  have hd : FloatKind.f32.decode b = .number s m i := h
  have hne : ¬ (FloatKind.f32 = FloatKind.f64) := by decide
  have fin : ∀ k l, FloatKind.f64.decode (FloatKind.f64.encode (.number s m i)) = .number s k l → floatToFloatBits .f32 b .f64 = some (FloatKind.f64.encode (.number s m i)) := by
    intro k l hh
    unfold floatToFloatBits
    rw [if_neg hne, hd]
    simp only [hh]
    rfl
  by_cases hm : m = 0
  · subst hm
    have e := nearest_zero FloatKind.f64.format s i
    exact ⟨_, 0, -1074, fin 0 _ e, by rw [← f64_least]; exact e, by omega, by omega, by simp⟩
  · have hl : m.log2 ≤ 23 := log2_le (by omega)
    have e := nearest_exact FloatKind.f64.format s m i (max (i + m.log2 - 52) (-1074)) hm (by rw [f64_least, f64_frac]; rfl) (by omega) (by
      rw [f64_binade, f64_inf, f64_least]
      have hp : m * 2 ^ (i - max (i + m.log2 - 52) (-1074)).toNat < 2 ^ 53 := by
        have g1 : m < 2 ^ (m.log2 + 1) := Nat.lt_log2_self
        have g2 : m * 2 ^ (i - max (i + m.log2 - 52) (-1074)).toNat < 2 ^ (m.log2 + 1) * 2 ^ (i - max (i + m.log2 - 52) (-1074)).toNat := Nat.mul_lt_mul_of_pos_right g1 (Nat.two_pow_pos _)
        rw [← Nat.pow_add] at g2
        exact Nat.lt_of_lt_of_le g2 (Nat.pow_le_pow_right (by omega) (by omega))
      generalize m * 2 ^ (i - max (i + m.log2 - 52) (-1074)).toNat = K at *
      have : (max (i + (m.log2 : Int) - 52) (-1074) - -1074).toNat ≤ 1149 := by omega
      have := Nat.mul_le_mul_right 4503599627370496 this
      omega)
    exact ⟨_, _, _, fin _ _ e, e, by omega, by omega, rfl⟩

/-- Not below nought (or a NaN). -/
def NN (d : Datum) : Prop := match d with | .number s m _ => s = false ∨ m = 0 | .infinity s => s = false | .nan _ _ => True

set_option maxRecDepth 100000 in
theorem small_whole : ∀ q : Nat, q < 1024 → (floatToFloatBits .f64 (FloatKind.f64.encode (.number false q 0)) .f32).bind (fun r => floatToIntVal .f32 r .i64) = some (q : Int) := by decide +kernel
set_option maxRecDepth 100000 in
theorem small_zero : (floatToFloatBits .f64 (FloatKind.f64.encode (.number true 0 0)) .f32).bind (fun r => floatToIntVal .f32 r .i64) = some 0 := by decide +kernel
set_option maxRecDepth 100000 in
theorem small_int : ∀ n : Nat, n < 1025 → (match rd (floatOfInt .f32 (n : Int)) with | .number s k p => s == false && decide (p ≤ 0) && decide (-149 ≤ p) && k == n * 2 ^ (-p).toNat | _ => false) = true := by decide +kernel
end Go.Proofs.YteebkfdocdmboaaDoor
