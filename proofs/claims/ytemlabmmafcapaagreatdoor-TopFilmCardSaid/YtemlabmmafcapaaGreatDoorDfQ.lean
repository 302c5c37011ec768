/- Shares of dissolves: a quotient of small whole numbers. No program in sight. -/
import Derived.Test.YtemlabmmafcapaaGreatDoorMem
namespace Go.Proofs.YtemlabmmafcapaaGreatDoor

section
open Go.RowKit

/-- A single that is neither a NaN nor an infinity. -/
def isNum (b : Nat) : Bool := match rd b with | .number .. => true | _ => false

theorem signed_abs (s : Bool) (m n : Nat) : (Ieee.signed s m n = ((m * 2 ^ n : Nat) : Int)) ∨ (Ieee.signed s m n = -((m * 2 ^ n : Nat) : Int)) := by
  unfold Ieee.signed
  cases s
  · exact .inl (by simp [Nat.shiftLeft_eq])
  · exact .inr (by simp [Nat.shiftLeft_eq])
theorem read_bd {b : Nat} {s : Bool} {m : Nat} {i : Int} (h : rd b = .number s m i) : m < 16777216 ∧ -149 ≤ i ∧ i ≤ 104 := by
  unfold rd Ieee.Format.read at h
  have h1 : FloatKind.f32.format.binade = 8388608 := by decide
  have h2 : FloatKind.f32.format.infRung = 2139095040 := by decide
  have h3 : FloatKind.f32.format.leastPlace = -149 := by decide
  simp only [h1, h2, h3] at h
  generalize b % FloatKind.f32.format.signWeight = q at h
  split at h
  · rename_i hq
    simp only [Ieee.Datum.number.injEq] at h
    omega
  · split at h
    · rename_i hq hq2
      simp only [Ieee.Datum.number.injEq] at h
      have := Nat.mod_lt q (show 0 < 8388608 by omega)
      have h5 : q / 8388608 ≤ 254 := by omega
      omega
    · split at h <;> cases h
theorem rd_max : rd 2139095039 = .number false 16777215 104 := by decide
theorem rd_min : rd 4286578687 = .number true 16777215 104 := by decide

theorem order_max (b : Nat) : (FloatKind.f32.format.order b 2139095039 == some .gt) = (match rd b with | .infinity false => true | _ => false) := by
  show ((rd b).order (rd 2139095039) == some .gt) = _
  rw [rd_max]
  cases hb : rd b with
  | nan => rfl
  | infinity s => cases s <;> rfl
  | number s m i =>
    obtain ⟨h1, h2, h3⟩ := read_bd hb
    show (some (compare (Ieee.signed s m (i - min i 104).toNat) (Ieee.signed false 16777215 (104 - min i 104).toNat)) == some .gt) = false
    rw [show min i 104 = i by omega, show (i - i).toNat = 0 by omega]
    have hp : 1 ≤ 2 ^ (104 - i).toNat := Nat.one_le_two_pow
    have hq : 16777215 ≤ 16777215 * 2 ^ (104 - i).toNat := Nat.le_mul_of_pos_right _ hp
    have e2 : Ieee.signed false 16777215 (104 - i).toNat = ((16777215 * 2 ^ (104 - i).toNat : Nat) : Int) := by simp [Ieee.signed, Nat.shiftLeft_eq]
    rw [e2, Int.compare_eq_ite_lt]
    generalize 16777215 * 2 ^ (104 - i).toNat = z at hq
    have e1 := signed_abs s m 0
    rw [Nat.pow_zero, Nat.mul_one] at e1
    split
    · rfl
    · rw [if_neg (by omega)]; rfl
theorem order_min (b : Nat) : (FloatKind.f32.format.order b 4286578687 == some .lt) = (match rd b with | .infinity true => true | _ => false) := by
  show ((rd b).order (rd 4286578687) == some .lt) = _
  rw [rd_min]
  cases hb : rd b with
  | nan => rfl
  | infinity s => cases s <;> rfl
  | number s m i =>
    obtain ⟨h1, h2, h3⟩ := read_bd hb
    show (some (compare (Ieee.signed s m (i - min i 104).toNat) (Ieee.signed true 16777215 (104 - min i 104).toNat)) == some .lt) = false
    rw [show min i 104 = i by omega, show (i - i).toNat = 0 by omega]
    have hp : 1 ≤ 2 ^ (104 - i).toNat := Nat.one_le_two_pow
    have hq : 16777215 ≤ 16777215 * 2 ^ (104 - i).toNat := Nat.le_mul_of_pos_right _ hp
    have e2 : Ieee.signed true 16777215 (104 - i).toNat = -((16777215 * 2 ^ (104 - i).toNat : Nat) : Int) := by simp [Ieee.signed, Nat.shiftLeft_eq]
    rw [e2, Int.compare_eq_ite_lt]
    generalize 16777215 * 2 ^ (104 - i).toNat = z at hq
    have e1 := signed_abs s m 0
    rw [Nat.pow_zero, Nat.mul_one] at e1
    rw [if_neg (by omega)]
    split <;> rfl
theorem order_eq (b : Nat) : (FloatKind.f32.format.order b b == some .eq) = !isNaN b := by
  unfold isNaN
  cases FloatKind.f32.format.order b b with
  | none => rfl
  | some o => cases o <;> rfl
theorem isNum_nan {b : Nat} (h : isNaN b = true) : isNum b = false := by
  rw [isNaN_iff] at h
  unfold isNum
  cases hb : rd b <;> simp_all [Ieee.Datum.isNaN]

/-- A number less itself is nought. -/
theorem sub_self_num {b : Nat} (h : isNum b = true) : floatBits .sub .f32 b b = some 0 := by
  unfold isNum at h
  cases hb : rd b with
  | nan => simp [hb] at h
  | infinity => simp [hb] at h
  | number s m i =>
    have hb' : FloatKind.f32.format.read b = .number s m i := hb
    show FloatKind.f32.format.sub b b = some 0
    unfold Ieee.Format.sub
    rw [hb']
    simp only [Ieee.Datum.opposite, Ieee.Datum.sum]
    have e : Ieee.signed s m (i - min i i).toNat + Ieee.signed (!s) m (i - min i i).toNat = 0 := by
      unfold Ieee.signed; cases s <;> simp <;> omega
    rw [e]
    simp only [if_pos]
    have e2 : (s && !s) = false := by cases s <;> rfl
    rw [e2]
    rfl
theorem sub_self_not {b : Nat} (h : isNum b = false) : floatBits .sub .f32 b b = none := by
  cases hb : rd b with
  | number => simp [isNum, hb] at h
  | nan s f =>
    have : isNaN b = true := by rw [isNaN_iff, hb]; rfl
    exact floatBits_nan_left this
  | infinity s =>
    have hb' : FloatKind.f32.format.read b = .infinity s := hb
    show FloatKind.f32.format.sub b b = none
    unfold Ieee.Format.sub
    rw [hb']
    cases s <;> rfl
/-- v - v is nought just of a number. -/
theorem sub_is_zero (b : Nat) (w : World) : (FloatKind.f32.format.order (fres .sub .f32 b b w) 0 == some .eq) = isNum b := by
  cases h : isNum b with
  | true =>
    have : fres .sub .f32 b b w = 0 := by simp [fres, sub_self_num h]
    rw [this]; decide
  | false =>
    have hn : fres .sub .f32 b b w = (Question.nanBits .f32 b b).cut (w.tape w.drawn (.nanBits .f32 b b)) := by simp [fres, sub_self_not h]
    have hc : isNaN (fres .sub .f32 b b w) = true := by rw [hn]; exact cut_nan _ _ _
    rw [isNaN_iff] at hc
    show ((rd (fres .sub .f32 b b w)).order (rd 0) == some .eq) = false
    rw [order_none_left hc]; rfl
end

section
open Go.RowKit Ieee

theorem read_word (f : Format) (s : Bool) (r : Nat) (h : r < f.signWeight) : f.read (f.word s r) =
    if r < f.binade then .number s r f.leastPlace else if r < f.infRung then .number s (f.binade + r % f.binade) (f.leastPlace + (r / f.binade - 1 : Nat)) else if r = f.infRung then .infinity s else .nan s (r - f.infRung) := by
  have e1 : (f.word s r / f.signWeight % 2 == 1) = s := by
    unfold Format.word
    cases s
    · rw [if_neg (by simp), Nat.div_eq_of_lt h]; rfl
    · rw [if_pos rfl, Nat.add_div_left _ (by omega), Nat.div_eq_of_lt h]; rfl
  have e2 : f.word s r % f.signWeight = r := by
    unfold Format.word
    cases s
    · rw [if_neg (by simp)]; exact Nat.mod_eq_of_lt h
    · rw [if_pos rfl, Nat.add_mod_left]; exact Nat.mod_eq_of_lt h
  unfold Format.read
  simp only [e1, e2]

theorem cut_none (way : Toward) (neg : Bool) (n : Nat) : way.cut neg n 0 = n := by
  unfold Toward.cut
  rw [Nat.zero_min]
  have h1 : (1 <<< 0 : Nat) = 1 := rfl
  simp only [h1, Nat.div_one, Nat.mod_one]
  cases way <;> simp

theorem log2_le {m b : Nat} (h : m < 2 ^ (b + 1)) : m.log2 ≤ b := by
  by_cases hm : m = 0
  · subst hm; simp
  · have := (Nat.log2_lt hm).2 h
    omega

theorem nearest_exact (f : Format) (s : Bool) (m : Nat) (p last : Int) (hm : m ≠ 0) (hlast : last = max (p + m.log2 - f.fractionBits) f.leastPlace) (hle : last ≤ p)
    (hr : (last - f.leastPlace).toNat * f.binade + m * 2 ^ (p - last).toNat < f.infRung) : f.read (f.nearest s m p) = .number s (m * 2 ^ (p - last).toNat) last := by
  unfold Format.nearest
  rw [if_neg hm]
  simp only [← hlast]
  rw [show (last - p).toNat = 0 by omega, cut_none, Nat.shiftLeft_eq, Nat.min_eq_left (by omega)]
  have hlt := f.infRung_lt
  rw [read_word f s _ (by omega)]
  have hb : 0 < f.binade := Nat.two_pow_pos _
  have hbe : f.binade = 2 ^ f.fractionBits := rfl
  have hk2 : m * 2 ^ (p - last).toNat < 2 * f.binade := by
    have h1 : m < 2 ^ (m.log2 + 1) := Nat.lt_log2_self
    have h2 : m * 2 ^ (p - last).toNat < 2 ^ (m.log2 + 1) * 2 ^ (p - last).toNat := Nat.mul_lt_mul_of_pos_right h1 (Nat.two_pow_pos _)
    rw [← Nat.pow_add] at h2
    have h3 : 2 ^ (m.log2 + 1 + (p - last).toNat) ≤ 2 ^ (f.fractionBits + 1) := Nat.pow_le_pow_right (by omega) (by omega)
    rw [Nat.pow_succ] at h3
    omega
  have hk1 : f.leastPlace < last → f.binade ≤ m * 2 ^ (p - last).toNat := by
    intro hg
    have h1 : 2 ^ m.log2 ≤ m := Nat.log2_self_le hm
    have h2 : 2 ^ m.log2 * 2 ^ (p - last).toNat ≤ m * 2 ^ (p - last).toNat := Nat.mul_le_mul_right _ h1
    rw [← Nat.pow_add] at h2
    have h3 : m.log2 + (p - last).toNat = f.fractionBits := by omega
    rw [h3] at h2
    exact h2
  have hlp : f.leastPlace ≤ last := by omega
  generalize hK : m * 2 ^ (p - last).toNat = K at *
  by_cases hg : f.leastPlace < last
  · have hk := hk1 hg
    generalize hD : (last - f.leastPlace).toNat = D at *
    have hD1 : 1 ≤ D := by omega
    have hDb : f.binade ≤ D * f.binade := Nat.le_mul_of_pos_left _ hD1
    rw [if_neg (by omega), if_pos hr]
    have e1 : (D * f.binade + K) % f.binade = K - f.binade := by
      rw [show D * f.binade + K = (K - f.binade) + (D + 1) * f.binade by rw [Nat.add_mul]; omega, Nat.add_mul_mod_self_right]
      exact Nat.mod_eq_of_lt (by omega)
    have e2 : (D * f.binade + K) / f.binade = D + 1 := by
      rw [show D * f.binade + K = (K - f.binade) + (D + 1) * f.binade by rw [Nat.add_mul]; omega, Nat.add_mul_div_right _ _ hb, Nat.div_eq_of_lt (by omega)]
      omega
    rw [e1, e2]
    congr 1 <;> omega
  · have he : last = f.leastPlace := by omega
    have hD : (last - f.leastPlace).toNat = 0 := by omega
    rw [hD, Nat.zero_mul, Nat.zero_add] at hr ⊢
    by_cases hkb : K < f.binade
    · rw [if_pos hkb, he]
    · rw [if_neg hkb, if_pos hr]
      have e1 : K % f.binade = K - f.binade := by
        rw [show K = (K - f.binade) + 1 * f.binade by omega, Nat.add_mul_mod_self_right]
        rw [show K - f.binade + 1 * f.binade - f.binade = K - f.binade by omega]
        exact Nat.mod_eq_of_lt (by omega)
      have e2 : K / f.binade = 1 := by
        rw [show K = (K - f.binade) + 1 * f.binade by omega, Nat.add_mul_div_right _ _ hb, Nat.div_eq_of_lt (by omega)]
      rw [e1, e2]
      congr 1 <;> omega
theorem nearest_zero (f : Format) (s : Bool) (p : Int) : f.read (f.nearest s 0 p) = .number s 0 f.leastPlace := by
  unfold Format.nearest
  have hb : 0 < f.binade := Nat.two_pow_pos _
  rw [if_pos rfl, read_word f s 0 (Nat.two_pow_pos _), if_pos hb]

theorem f64_binade : FloatKind.f64.format.binade = 4503599627370496 := by decide
theorem f64_inf : FloatKind.f64.format.infRung = 9218868437227405312 := by decide
theorem f64_least : FloatKind.f64.format.leastPlace = -1074 := by decide
theorem f64_frac : FloatKind.f64.format.fractionBits = 52 := rfl

/-- A single that is a number, as a double: the same number. -/
theorem widen (b : Nat) (s : Bool) (m : Nat) (i : Int) (h : rd b = .number s m i) : ∃ r k l, floatToFloatBits .f32 b .f64 = some r ∧ FloatKind.f64.decode r = .number s k l ∧ l ≤ i ∧ -1074 ≤ l ∧ k = m * 2 ^ (i - l).toNat := by
  obtain ⟨h1, h2, h3⟩ := read_bd h
  have hd : FloatKind.f32.decode b = .number s m i := h
  have hne : ¬ (FloatKind.f32 = FloatKind.f64) := by decide
  have fin : ∀ k l, FloatKind.f64.decode (FloatKind.f64.encode (.number s m i)) = .number s k l → floatToFloatBits .f32 b .f64 = some (FloatKind.f64.encode (.number s m i)) := by
    intro k l hh
    unfold floatToFloatBits
    rw [if_neg hne, hd]
    simp only [hh]
    rfl
  by_cases hm : m = 0
  · subst hm
    have e := nearest_zero FloatKind.f64.format s i
    exact ⟨_, 0, -1074, fin 0 _ e, by rw [← f64_least]; exact e, by omega, by omega, by simp⟩
  · have hl : m.log2 ≤ 23 := log2_le (by omega)
    have e := nearest_exact FloatKind.f64.format s m i (max (i + m.log2 - 52) (-1074)) hm (by rw [f64_least, f64_frac]; rfl) (by omega) (by
      rw [f64_binade, f64_inf, f64_least]
      have hp : m * 2 ^ (i - max (i + m.log2 - 52) (-1074)).toNat < 2 ^ 53 := by
        have g1 : m < 2 ^ (m.log2 + 1) := Nat.lt_log2_self
        have g2 : m * 2 ^ (i - max (i + m.log2 - 52) (-1074)).toNat < 2 ^ (m.log2 + 1) * 2 ^ (i - max (i + m.log2 - 52) (-1074)).toNat := Nat.mul_lt_mul_of_pos_right g1 (Nat.two_pow_pos _)
        rw [← Nat.pow_add] at g2
        exact Nat.lt_of_lt_of_le g2 (Nat.pow_le_pow_right (by omega) (by omega))
      generalize m * 2 ^ (i - max (i + m.log2 - 52) (-1074)).toNat = K at *
      have : (max (i + (m.log2 : Int) - 52) (-1074) - -1074).toNat ≤ 1149 := by omega
      have := Nat.mul_le_mul_right 4503599627370496 this
      omega)
    exact ⟨_, _, _, fin _ _ e, e, by omega, by omega, rfl⟩

/-- Not below nought (or a NaN). -/
def NN (d : Datum) : Prop := match d with | .number s m _ => s = false ∨ m = 0 | .infinity s => s = false | .nan _ _ => True

set_option maxRecDepth 100000 in
theorem small_whole : ∀ q : Nat, q < 1024 → (floatToFloatBits .f64 (FloatKind.f64.encode (.number false q 0)) .f32).bind (fun r => floatToIntVal .f32 r .i64) = some (q : Int) := by decide +kernel
set_option maxRecDepth 100000 in
theorem small_zero : (floatToFloatBits .f64 (FloatKind.f64.encode (.number true 0 0)) .f32).bind (fun r => floatToIntVal .f32 r .i64) = some 0 := by decide +kernel
set_option maxRecDepth 100000 in
theorem small_int : ∀ n : Nat, n < 1025 → (match rd (floatOfInt .f32 (n : Int)) with | .number s k p => s == false && decide (p ≤ 0) && decide (-149 ≤ p) && k == n * 2 ^ (-p).toNat | _ => false) = true := by decide +kernel
end

section
open Go.RowKit Ieee

/-- Without a minus (or a NaN). -/
def PN (d : Datum) : Prop := match d with | .number s _ _ => s = false | .infinity s => s = false | .nan _ _ => True

theorem read_nearest (f : Format) (s : Bool) (m : Nat) (p : Int) : (∃ k l, f.read (f.nearest s m p) = .number s k l ∧ (m = 0 → k = 0)) ∨ f.read (f.nearest s m p) = .infinity s := by
  by_cases hm : m = 0
  · subst hm; exact .inl ⟨0, _, nearest_zero f s p, fun _ => rfl⟩
  · unfold Format.nearest
    rw [if_neg hm]
    simp only
    generalize hr : min _ f.infRung = r
    have h1 : r ≤ f.infRung := by rw [← hr]; exact Nat.min_le_right _ _
    have hlt := f.infRung_lt
    rw [read_word f s r (by omega)]
    split
    · exact .inl ⟨_, _, rfl, fun h => absurd h hm⟩
    · split
      · exact .inl ⟨_, _, rfl, fun h => absurd h hm⟩
      · rw [if_pos (by omega)]; exact .inr rfl
theorem f32_inf : FloatKind.f32.format.infRung = 2139095040 := by decide
theorem f32_binade : FloatKind.f32.format.binade = 8388608 := by decide
theorem read_inf (s : Bool) : FloatKind.f32.format.read (FloatKind.f32.format.word s FloatKind.f32.format.infRung) = .infinity s := by
  rw [read_word _ s _ FloatKind.f32.format.infRung_lt, f32_inf, f32_binade, if_neg (by omega), if_neg (by omega), if_pos rfl]

theorem NN_write {d : Datum} (h : NN d) : NN (rd (FloatKind.f32.format.write d)) ∨ ∃ s t, d = .nan s t := by
  cases d with
  | number s m p =>
    left
    rcases read_nearest FloatKind.f32.format s m p with ⟨k, l, h1, h2⟩ | h1
    · show NN (FloatKind.f32.format.read (FloatKind.f32.format.nearest s m p))
      rw [h1]
      exact h.imp id h2
    · show NN (FloatKind.f32.format.read (FloatKind.f32.format.nearest s m p))
      rcases h with h | h
      · rw [h1]; exact h
      · subst h; rw [nearest_zero] at h1; cases h1
  | infinity s => left; show NN (FloatKind.f32.format.read (FloatKind.f32.format.word s FloatKind.f32.format.infRung)); rw [read_inf]; exact h
  | nan s t => exact .inr ⟨s, t, rfl⟩
theorem PN_write {d : Datum} (h : PN d) : PN (rd (FloatKind.f32.format.write d)) ∨ ∃ s t, d = .nan s t := by
  cases d with
  | number s m p =>
    left
    show PN (FloatKind.f32.format.read (FloatKind.f32.format.nearest s m p))
    rcases read_nearest FloatKind.f32.format s m p with ⟨k, l, h1, h2⟩ | h1
    · rw [h1]; exact h
    · rw [h1]; exact h
  | infinity s => left; show PN (FloatKind.f32.format.read (FloatKind.f32.format.word s FloatKind.f32.format.infRung)); rw [read_inf]; exact h
  | nan s t => exact .inr ⟨s, t, rfl⟩

theorem signed_not (t : Bool) (n k : Nat) : signed (!t) n k = - signed t n k := by cases t <;> simp [signed]

theorem cmp_ge {a b : Int} (h : compare a b ≠ .lt) : b ≤ a := by
  rw [Int.compare_eq_ite_lt] at h
  split at h
  · exact absurd rfl h
  · omega
theorem cmp_lt {a b : Int} (h : compare a b = .lt) : a < b := by
  rw [Int.compare_eq_ite_lt] at h
  split at h
  · assumption
  · split at h <;> cases h

/-- What lies not below a number, less that number. -/
theorem sub_sum_NN {v l d : Datum} (hl : ∃ t n j, l = .number t n j) (h : v.order l = some .gt ∨ v.order l = some .eq) (hd : v.sum l.opposite = some d) : NN d := by
  obtain ⟨t, n, j, rfl⟩ := hl
  cases v with
  | nan s f => simp [Datum.order] at h
  | infinity s =>
    simp only [Datum.opposite, Datum.sum, Option.some.injEq] at hd
    subst hd
    cases s
    · rfl
    · simp [Datum.order] at h
  | number s m i =>
    simp only [Datum.opposite, Datum.sum, Option.some.injEq] at hd
    simp only [Datum.order, Option.some.injEq] at h
    have hge := cmp_ge (a := signed s m (i - min i j).toNat) (b := signed t n (j - min i j).toNat) (by rcases h with h | h <;> rw [h] <;> decide)
    rw [signed_not] at hd
    subst hd
    show _ = false ∨ _ = 0
    generalize signed s m (i - min i j).toNat = A at *
    generalize signed t n (j - min i j).toNat = B at *
    by_cases h0 : A + -B = 0
    · right; rw [h0]; rfl
    · left; rw [if_neg h0]; simp; omega
theorem sub_sum_PN {v l d : Datum} (hv : ∃ s m i, v = .number s m i) (hl : ∃ t n j, l = .number t n j) (h : l.order v = some .lt) (hd : v.sum l.opposite = some d) : PN d := by
  obtain ⟨s, m, i, rfl⟩ := hv
  obtain ⟨t, n, j, rfl⟩ := hl
  simp only [Datum.opposite, Datum.sum, Option.some.injEq] at hd
  simp only [Datum.order, Option.some.injEq] at h
  have hlt := cmp_lt h
  rw [Int.min_comm j i] at hlt
  rw [signed_not] at hd
  subst hd
  show _ = false
  generalize signed s m (i - min i j).toNat = A at *
  generalize signed t n (j - min i j).toNat = B at *
  rw [if_neg (by omega)]
  simp; omega
theorem sum_not_nan {a b d : Datum} (h : a.sum b = some d) : ¬ ∃ s t, d = .nan s t := by
  rintro ⟨s, t, rfl⟩
  cases a <;> cases b <;> simp [Datum.sum] at h
theorem quotient_not_nan {g : Nat} {a b d : Datum} (h : a.quotient g b = some d) : ¬ ∃ s t, d = .nan s t := by
  rintro ⟨s, t, rfl⟩
  cases a <;> cases b <;> simp [Datum.quotient] at h
  split at h
  · split at h <;> simp at h
  · simp at h
theorem product_not_nan {a b d : Datum} (h : a.product b = some d) : ¬ ∃ s t, d = .nan s t := by
  rintro ⟨s, t, rfl⟩
  cases a <;> cases b <;> simp [Datum.product] at h
theorem quot_NN {g : Nat} {a b d : Datum} (ha : NN a) (hb : PN b) (h : a.quotient g b = some d) : NN d := by
  cases a with
  | nan s f => simp [Datum.quotient] at h
  | infinity s =>
    cases b with
    | nan => simp [Datum.quotient] at h
    | infinity => simp [Datum.quotient] at h
    | number t n j =>
      simp only [Datum.quotient, Option.some.injEq] at h
      subst h
      have h1 : s = false := ha
      have h2 : t = false := hb
      subst h1 h2; rfl
  | number s m i =>
    cases b with
    | nan => simp [Datum.quotient] at h
    | infinity t =>
      simp only [Datum.quotient, Option.some.injEq] at h
      subst h
      exact .inr rfl
    | number t n j =>
      have h2 : t = false := hb
      subst h2
      simp only [Datum.quotient] at h
      split at h
      · split at h
        · cases h
        · rename_i hm
          simp only [Option.some.injEq] at h
          subst h
          rcases ha with h1 | h1
          · subst h1; rfl
          · exact absurd h1 hm
      · simp only [Option.some.injEq] at h
        subst h
        rcases ha with h1 | h1
        · subst h1; exact .inl rfl
        · subst h1; right; simp
theorem prod_NN {a b d : Datum} (ha : NN a) (hb : ∃ n j, b = .number false n j) (h : a.product b = some d) : NN d := by
  obtain ⟨n, j, rfl⟩ := hb
  cases a with
  | nan s f => simp [Datum.product] at h
  | infinity s =>
    have h1 : s = false := ha
    subst h1
    simp only [Datum.product] at h
    split at h
    · cases h
    · simp only [Option.some.injEq] at h
      subst h; rfl
  | number s m i =>
    simp only [Datum.product, Option.some.injEq] at h
    subst h
    rcases ha with h1 | h1
    · subst h1; exact .inl rfl
    · subst h1; right; simp

theorem NN_theNaN : NN (rd theNaN) := by
  have h : rd theNaN = .nan false 4194304 := by decide
  rw [h]; trivial
theorem PN_theNaN : PN (rd theNaN) := by
  have h : rd theNaN = .nan false 4194304 := by decide
  rw [h]; trivial
theorem NN_fop {op : BinOp} {x y : Nat} (h : ∀ r, floatBits op .f32 x y = some r → NN (rd r)) : NN (rd (fop op x y)) := by
  unfold fop
  cases hf : floatBits op .f32 x y with
  | none => exact NN_theNaN
  | some r =>
    show NN (rd (canon r))
    unfold canon
    split
    · exact NN_theNaN
    · exact h r hf
theorem PN_fop {op : BinOp} {x y : Nat} (h : ∀ r, floatBits op .f32 x y = some r → PN (rd r)) : PN (rd (fop op x y)) := by
  unfold fop
  cases hf : floatBits op .f32 x y with
  | none => exact PN_theNaN
  | some r =>
    show PN (rd (canon r))
    unfold canon
    split
    · exact PN_theNaN
    · exact h r hf
theorem map_some {d : Option Datum} {r : Nat} (h : d.map FloatKind.f32.format.write = some r) : ∃ x, d = some x ∧ r = FloatKind.f32.format.write x := by
  cases d with
  | none => cases h
  | some x => exact ⟨x, rfl, by simpa using h.symm⟩

/-- The share of a bin, times the bins. -/
def binT (lo hi v : Nat) (n : Int) : Nat := fop .mul (fop .quo (fop .sub v lo) (fop .sub hi lo)) (floatOfInt .f32 n)

theorem isNum_rd {b : Nat} (h : isNum b = true) : ∃ s m i, rd b = .number s m i := by
  unfold isNum at h
  cases hb : rd b with
  | number s m i => exact ⟨s, m, i, rfl⟩
  | infinity s => rw [hb] at h; cases h
  | nan s t => rw [hb] at h; cases h
theorem ofInt_rd {n : Nat} (hn : n < 1025) : ∃ k p, rd (floatOfInt .f32 (n : Int)) = .number false k p ∧ p ≤ 0 ∧ -149 ≤ p ∧ k = n * 2 ^ (-p).toNat := by
  have h := small_int n hn
  revert h
  cases hr : rd (floatOfInt .f32 (n : Int)) with
  | infinity => intro h; cases h
  | nan => intro h; cases h
  | number s k p =>
    intro h
    simp only [Bool.and_eq_true, beq_iff_eq, decide_eq_true_eq] at h
    obtain ⟨⟨⟨rfl, h1⟩, h2⟩, h3⟩ := h
    exact ⟨k, p, rfl, h1, h2, h3⟩
theorem binT_NN {lo hi v n : Nat} (hlo : isNum lo = true) (hhi : isNum hi = true) (hn : n < 1025) (h1 : FloatKind.f32.format.order v lo = some .gt ∨ FloatKind.f32.format.order v lo = some .eq) (h2 : FloatKind.f32.format.order lo hi = some .lt) : NN (rd (binT lo hi v n)) := by
  have L := isNum_rd hlo
  have Hh := isNum_rd hhi
  have A : NN (rd (fop .sub v lo)) := NN_fop fun r hr => by
    obtain ⟨x, e1, rfl⟩ := map_some (d := (rd v).sum (rd lo).opposite) hr
    exact (NN_write (sub_sum_NN L h1 e1)).resolve_right (sum_not_nan e1)
  have Bp : PN (rd (fop .sub hi lo)) := PN_fop fun r hr => by
    obtain ⟨x, e1, rfl⟩ := map_some (d := (rd hi).sum (rd lo).opposite) hr
    exact (PN_write (sub_sum_PN Hh L h2 e1)).resolve_right (sum_not_nan e1)
  have Q : NN (rd (fop .quo (fop .sub v lo) (fop .sub hi lo))) := NN_fop fun r hr => by
    obtain ⟨x, e1, rfl⟩ := map_some (d := (rd (fop .sub v lo)).quotient 25 (rd (fop .sub hi lo))) hr
    exact (NN_write (quot_NN A Bp e1)).resolve_right (quotient_not_nan e1)
  obtain ⟨k, p, hk, _⟩ := ofInt_rd hn
  exact NN_fop fun r hr => by
    obtain ⟨x, e1, rfl⟩ := map_some (d := (rd (fop .quo (fop .sub v lo) (fop .sub hi lo))).product (rd (floatOfInt .f32 (n : Int)))) hr
    exact (NN_write (prod_NN Q ⟨k, p, hk⟩ e1)).resolve_right (product_not_nan e1)

/-- The whole part of a small single. -/
def wholeOf (T : Nat) : Nat := match floatToFloatBits .f32 T .f64 with
  | some r => (match (FloatKind.f64.decode r).integral .down with | .number _ q _ => q | _ => 0)
  | none => 0

theorem cut_down_pos (n drop : Nat) : Toward.down.cut false n drop = n / 2 ^ min drop (n.log2 + 2) := by
  unfold Toward.cut
  simp only [Bool.false_and, Bool.toNat_false, Nat.add_zero, Nat.shiftLeft_eq, Nat.one_mul]
theorem cut_down_zero (s : Bool) (drop : Nat) : Toward.down.cut s 0 drop = 0 := by
  unfold Toward.cut
  simp

theorem whole_small {T n : Nat} (hn : n < 1025) (hT : NN (rd T)) (hlt : FloatKind.f32.format.order T (floatOfInt .f32 (n : Int)) = some .lt) :
    ∃ r1 s k l r3, floatToFloatBits .f32 T .f64 = some r1 ∧ FloatKind.f64.decode r1 = .number s k l ∧ (Datum.number s k l).integral .down = .number s (wholeOf T) 0 ∧ floatToFloatBits .f64 (FloatKind.f64.encode (.number s (wholeOf T) 0)) .f32 = some r3 ∧ floatToIntVal .f32 r3 .i64 = some (wholeOf T : Int) ∧ wholeOf T < n := by
  obtain ⟨k2, p, hk, hp1, hp2, hkn⟩ := ofInt_rd hn
  have ho : (rd T).order (.number false k2 p) = some .lt := by rw [← hk]; exact hlt
  cases hr : rd T with
  | nan s t => rw [hr] at ho; simp [Datum.order] at ho
  | infinity s =>
    rw [hr] at hT ho
    have h1 : s = false := hT
    subst h1
    simp [Datum.order] at ho
  | number s m i =>
    rw [hr] at hT ho
    obtain ⟨r1, k, l, e1, e2, hl1, hl2, hkm⟩ := widen T s m i hr
    have hw : wholeOf T = Toward.down.cut s (k <<< l.toNat) (-l).toNat := by unfold wholeOf; rw [e1]; simp only [e2]; rfl
    have hint : (Datum.number s k l).integral .down = .number s (wholeOf T) 0 := by rw [hw]; rfl
    simp only [Datum.order, Option.some.injEq] at ho
    have hlt' := cmp_lt ho
    have fin : (s = false ∨ wholeOf T = 0) → wholeOf T < 1024 → ∃ r3, floatToFloatBits .f64 (FloatKind.f64.encode (.number s (wholeOf T) 0)) .f32 = some r3 ∧ floatToIntVal .f32 r3 .i64 = some (wholeOf T : Int) := by
      intro hs hq
      have h1 : (floatToFloatBits .f64 (FloatKind.f64.encode (.number s (wholeOf T) 0)) .f32).bind (fun r => floatToIntVal .f32 r .i64) = some (wholeOf T : Int) := by
        cases s
        · exact small_whole _ hq
        · rcases hs with h | h
          · cases h
          · rw [h]; exact small_zero
      obtain ⟨r3, h2, h3⟩ := Option.bind_eq_some_iff.1 h1
      exact ⟨r3, h2, h3⟩
    by_cases hm : m = 0
    · subst hm
      have hk0 : k = 0 := by rw [hkm]; simp
      have hw0 : wholeOf T = 0 := by rw [hw, hk0, Nat.zero_shiftLeft, cut_down_zero]
      obtain ⟨r3, h2, h3⟩ := fin (.inr hw0) (by omega)
      refine ⟨r1, s, k, l, r3, e1, e2, hint, h2, h3, ?_⟩
      by_cases hn0 : n = 0
      · subst hn0
        have hk2 : k2 = 0 := by rw [hkn]; simp
        rw [hk2] at hlt'
        cases s <;> simp [signed] at hlt'
      · omega
    · have hs : s = false := by rcases hT with h | h; exact h; exact absurd h hm
      subst hs
      have h4 : signed false m (i - min i p).toNat = ((m * 2 ^ (i - min i p).toNat : Nat) : Int) := by simp [signed, Nat.shiftLeft_eq]
      have h5 : signed false k2 (p - min i p).toNat = ((k2 * 2 ^ (p - min i p).toNat : Nat) : Int) := by simp [signed, Nat.shiftLeft_eq]
      rw [h4, h5] at hlt'
      have h6 : m * 2 ^ (i - min i p).toNat < n * 2 ^ (-min i p).toNat := by
        have : k2 * 2 ^ (p - min i p).toNat = n * 2 ^ (-min i p).toNat := by
          rw [hkn, Nat.mul_assoc, ← Nat.pow_add]
          congr 2
          omega
        omega
      have hq : wholeOf T < n := by
        rw [hw, cut_down_pos, hkm]
        by_cases hl0 : 0 ≤ l
        · rw [show (-l).toNat = 0 by omega, Nat.zero_min, Nat.pow_zero, Nat.div_one, Nat.shiftLeft_eq, Nat.mul_assoc, ← Nat.pow_add]
          rw [show (i - l).toNat + l.toNat = i.toNat by omega]
          have h7 : m * 2 ^ i.toNat * 2 ^ (-min i p).toNat < n * 2 ^ (-min i p).toNat := by
            rw [Nat.mul_assoc, ← Nat.pow_add, show i.toNat + (-min i p).toNat = (i - min i p).toNat by omega]
            exact h6
          exact Nat.lt_of_mul_lt_mul_right h7
        · rw [show l.toNat = 0 by omega, Nat.shiftLeft_zero]
          rcases Nat.le_total (-l).toNat ((m * 2 ^ (i - l).toNat).log2 + 2) with hc | hc
          · rw [Nat.min_eq_left hc, Nat.div_lt_iff_lt_mul (Nat.two_pow_pos _)]
            -- scale both sides by a common power
            have h7 : m * 2 ^ (i - l).toNat * 2 ^ (-min i p).toNat < n * 2 ^ (-l).toNat * 2 ^ (-min i p).toNat := by
              have e3 : m * 2 ^ (i - l).toNat * 2 ^ (-min i p).toNat = m * 2 ^ (i - min i p).toNat * 2 ^ (-l).toNat := by
                rw [Nat.mul_assoc, Nat.mul_assoc, ← Nat.pow_add, ← Nat.pow_add]
                congr 2
                omega
              have e4 : n * 2 ^ (-l).toNat * 2 ^ (-min i p).toNat = n * 2 ^ (-min i p).toNat * 2 ^ (-l).toNat := by
                rw [Nat.mul_assoc, Nat.mul_assoc, Nat.mul_comm (2 ^ (-l).toNat)]
              rw [e3, e4]
              exact Nat.mul_lt_mul_of_pos_right h6 (Nat.two_pow_pos _)
            exact Nat.lt_of_mul_lt_mul_right h7
          · rw [Nat.min_eq_right hc]
            have h8 : m * 2 ^ (i - l).toNat < 2 ^ ((m * 2 ^ (i - l).toNat).log2 + 2) := by
              have g := Nat.lt_log2_self (n := m * 2 ^ (i - l).toNat)
              rw [Nat.pow_succ] at g ⊢
              omega
            rw [Nat.div_eq_of_lt h8]
            rcases Nat.eq_zero_or_pos n with h0 | h0
            · subst h0; omega
            · exact h0
      obtain ⟨r3, h2, h3⟩ := fin (.inl rfl) (by omega)
      exact ⟨r1, false, k, l, r3, e1, e2, hint, h2, h3, hq⟩
end

section
open Go.RowKit Ieee

theorem log2_mul_pow {n : Nat} (j : Nat) (hn : n ≠ 0) : (n * 2 ^ j).log2 = n.log2 + j := by
  have h2 : n * 2 ^ j ≠ 0 := Nat.mul_ne_zero hn (Nat.ne_of_gt (Nat.two_pow_pos j))
  have a : n.log2 + j ≤ (n * 2 ^ j).log2 := by
    rw [Nat.le_log2 h2, Nat.pow_add]
    exact Nat.mul_le_mul_right _ (Nat.log2_self_le hn)
  have b : (n * 2 ^ j).log2 < n.log2 + j + 1 := by
    rw [Nat.log2_lt h2, show n.log2 + j + 1 = (n.log2 + 1) + j by omega, Nat.pow_add]
    exact Nat.mul_lt_mul_of_pos_right Nat.lt_log2_self (Nat.two_pow_pos j)
  omega
theorem cut_even (neg : Bool) (n drop g : Nat) (hg : g = min drop (n.log2 + 2)) : Toward.even.cut neg n drop = n / 2 ^ g + (decide (2 ^ g < 2 * (n % 2 ^ g)) || (2 ^ g == 2 * (n % 2 ^ g) && n / 2 ^ g % 2 == 1)).toNat := by
  unfold Toward.cut
  subst hg
  simp only [Nat.shiftLeft_eq, Nat.one_mul]
theorem cut_scale (neg : Bool) {n : Nat} (drop j : Nat) (hn : n ≠ 0) : Toward.even.cut neg (n * 2 ^ j) (drop + j) = Toward.even.cut neg n drop := by
  rw [cut_even neg (n * 2 ^ j) (drop + j) (min drop (n.log2 + 2) + j) (by rw [log2_mul_pow j hn]; omega), cut_even neg n drop _ rfl]
  generalize min drop (n.log2 + 2) = g
  have hp : 0 < 2 ^ j := Nat.two_pow_pos j
  rw [Nat.pow_add, Nat.mul_div_mul_right _ _ hp, Nat.mul_mod_mul_right]
  congr 3
  · rw [decide_eq_decide, ← Nat.mul_assoc]
    exact Nat.mul_lt_mul_right hp
  · congr 1
    rw [Bool.eq_iff_iff, beq_iff_eq, beq_iff_eq, ← Nat.mul_assoc]
    exact Nat.mul_right_cancel_iff hp
theorem cut_exact (neg : Bool) {n : Nat} (j drop : Nat) (hn : n ≠ 0) (h : drop ≤ j) : Toward.even.cut neg (n * 2 ^ j) drop = n * 2 ^ (j - drop) := by
  rw [cut_even neg (n * 2 ^ j) drop drop (by rw [log2_mul_pow j hn]; omega)]
  have e : n * 2 ^ j = n * 2 ^ (j - drop) * 2 ^ drop := by rw [Nat.mul_assoc, ← Nat.pow_add, Nat.sub_add_cancel h]
  have hp : 0 < 2 ^ drop := Nat.two_pow_pos drop
  rw [e, Nat.mul_div_cancel _ hp, Nat.mul_mod_left]
  have h1 : (2 ^ drop == 2 * 0) = false := by simp
  simp [h1]
/-- A number may be told with more digits further down. -/
theorem nearest_scale (f : Format) (s : Bool) (k j : Nat) (p : Int) : f.nearest s (k * 2 ^ j) (p - j) = f.nearest s k p := by
  by_cases hk : k = 0
  · subst hk; rw [Nat.zero_mul]; rfl
  have h2 : k * 2 ^ j ≠ 0 := Nat.mul_ne_zero hk (Nat.ne_of_gt (Nat.two_pow_pos j))
  unfold Format.nearest
  rw [if_neg hk, if_neg h2, log2_mul_pow j hk, show p - (j : Int) + ((k.log2 + j : Nat) : Int) - f.fractionBits = p + k.log2 - f.fractionBits by omega]
  generalize max (p + k.log2 - f.fractionBits) f.leastPlace = last
  have key : Toward.even.cut s ((k * 2 ^ j) <<< (p - j - last).toNat) (last - (p - j)).toNat = Toward.even.cut s (k <<< (p - last).toNat) (last - p).toNat := by
    simp only [Nat.shiftLeft_eq]
    by_cases h1 : last ≤ p - j
    · rw [show (last - (p - j)).toNat = 0 by omega, show (last - p).toNat = 0 by omega, cut_none, cut_none, Nat.mul_assoc, ← Nat.pow_add, show j + (p - j - last).toNat = (p - last).toNat by omega]
    · by_cases h3 : last ≤ p
      · rw [show (p - j - last).toNat = 0 by omega, show (last - p).toNat = 0 by omega, cut_none, Nat.pow_zero, Nat.mul_one, cut_exact s j _ hk (by omega), show j - (last - (p - j)).toNat = (p - last).toNat by omega]
      · rw [show (p - j - last).toNat = 0 by omega, show (p - last).toNat = 0 by omega, Nat.pow_zero, Nat.mul_one, Nat.mul_one, show (last - (p - j)).toNat = (last - p).toNat + j by omega, cut_scale s _ j hk]
  simp only [key]
theorem signed_pow (s : Bool) (m k : Nat) : signed s m k = (if s then -(m : Int) else (m : Int)) * 2 ^ k := by
  unfold signed
  cases s
  · simp only [Bool.false_eq_true, if_false, Nat.shiftLeft_eq]; push_cast; rfl
  · simp only [if_true, Nat.shiftLeft_eq]; push_cast; rw [Int.neg_mul]
/-- b stands for the whole number i. -/
def Val (b : Nat) (i : Int) : Prop := ∃ s m p, rd b = .number s m p ∧ ∀ base : Int, base ≤ p → base ≤ 0 → signed s m (p - base).toNat = i * 2 ^ (-base).toNat
theorem pow_pos' (k : Nat) : (0 : Int) < 2 ^ k := Int.pow_pos (by omega)
/-- One place is enough. -/
theorem val_of {b : Nat} {i : Int} {s : Bool} {m : Nat} {p base : Int} (h : rd b = .number s m p) (h1 : base ≤ p) (h2 : base ≤ 0) (he : signed s m (p - base).toNat = i * 2 ^ (-base).toNat) : Val b i := by
  refine ⟨s, m, p, h, fun c hc1 hc2 => ?_⟩
  rw [signed_pow] at he ⊢
  generalize (if s then -(m : Int) else (m : Int)) = z at he ⊢
  rcases Int.le_total base c with hbc | hcb
  · have e1 : (p - base).toNat = (p - c).toNat + (c - base).toNat := by omega
    have e2 : (-base).toNat = (-c).toNat + (c - base).toNat := by omega
    rw [e1, e2, Int.pow_add, Int.pow_add, ← Int.mul_assoc, ← Int.mul_assoc] at he
    exact Int.eq_of_mul_eq_mul_right (Int.ne_of_gt (pow_pos' _)) he
  · have e1 : (p - c).toNat = (p - base).toNat + (base - c).toNat := by omega
    have e2 : (-c).toNat = (-base).toNat + (base - c).toNat := by omega
    rw [e1, e2, Int.pow_add, Int.pow_add, ← Int.mul_assoc, ← Int.mul_assoc, he]
theorem Val.num {b : Nat} {i : Int} (h : Val b i) : ∃ s m p, rd b = .number s m p := by
  obtain ⟨s, m, p, h, _⟩ := h; exact ⟨s, m, p, h⟩
theorem val_sign {b : Nat} {i : Int} {s : Bool} {m : Nat} {p : Int} (h : Val b i) (hb : rd b = .number s m p) : (i < 0 → s = true) ∧ (0 < i → s = false) := by
  obtain ⟨s', m', p', h1, h2⟩ := h
  rw [hb] at h1
  cases h1
  have h3 := h2 (min p 0) (by omega) (by omega)
  rw [signed_pow] at h3
  have q1 := pow_pos' (p - min p 0).toNat
  have q2 := pow_pos' (-min p 0).toNat
  constructor
  · intro hi
    have hl : i * 2 ^ (-min p 0).toNat < 0 := Int.mul_neg_of_neg_of_pos hi q2
    cases s
    · exfalso
      rw [← h3] at hl
      have : (0 : Int) ≤ (if false = true then -(m : Int) else (m : Int)) * 2 ^ (p - min p 0).toNat := Int.mul_nonneg (by simp) (Int.le_of_lt q1)
      omega
    · rfl
  · intro hi
    have hl : 0 < i * 2 ^ (-min p 0).toNat := Int.mul_pos hi q2
    cases s
    · rfl
    · exfalso
      rw [← h3] at hl
      have : (if true = true then -(m : Int) else (m : Int)) * 2 ^ (p - min p 0).toNat ≤ 0 := Int.mul_nonpos_of_nonpos_of_nonneg (by simp) (Int.le_of_lt q1)
      omega
theorem ofInt_val {n : Int} (h1 : -8388608 < n) (h2 : n < 8388608) : Val (floatOfInt .f32 n) n ∧ ∃ m p, rd (floatOfInt .f32 n) = .number (decide (n < 0)) m p ∧ (m = 0 ∨ p + m.log2 ≤ 126) := by
  have hd : floatOfInt .f32 n = FloatKind.f32.format.nearest (decide (n < 0)) n.natAbs 0 := rfl
  by_cases h0 : n = 0
  · subst h0
    have hz : rd (floatOfInt .f32 0) = .number false 0 (-149) := by decide
    exact ⟨val_of (base := -149) hz (by omega) (by omega) (by decide), 0, -149, by rw [hz]; rfl, .inl rfl⟩
  · have hm : n.natAbs ≠ 0 := by omega
    have hl : n.natAbs.log2 ≤ 22 := log2_le (by omega)
    have hf : FloatKind.f32.format.fractionBits = 23 := rfl
    have hlp : FloatKind.f32.format.leastPlace = -149 := by decide
    obtain ⟨last, hlast⟩ : ∃ last, last = max ((0 : Int) + n.natAbs.log2 - FloatKind.f32.format.fractionBits) FloatKind.f32.format.leastPlace := ⟨_, rfl⟩
    have hll := hlast
    rw [hf, hlp] at hll
    have hle : last ≤ 0 := by omega
    have hub : n.natAbs * 2 ^ ((0 : Int) - last).toNat < 2 ^ 24 := by
      have a : n.natAbs < 2 ^ (n.natAbs.log2 + 1) := Nat.lt_log2_self
      have b : n.natAbs * 2 ^ ((0 : Int) - last).toNat < 2 ^ (n.natAbs.log2 + 1) * 2 ^ ((0 : Int) - last).toNat := Nat.mul_lt_mul_of_pos_right a (Nat.two_pow_pos _)
      rw [← Nat.pow_add] at b
      exact Nat.lt_of_lt_of_le b (Nat.pow_le_pow_right (by omega) (by omega))
    have hr : (last - FloatKind.f32.format.leastPlace).toNat * FloatKind.f32.format.binade + n.natAbs * 2 ^ ((0 : Int) - last).toNat < FloatKind.f32.format.infRung := by
      rw [f32_inf, f32_binade, hlp]
      have : (2 : Nat) ^ 24 = 16777216 := by decide
      omega
    have hx := nearest_exact FloatKind.f32.format (decide (n < 0)) n.natAbs 0 last hm hlast hle hr
    have hrd : rd (floatOfInt .f32 n) = .number (decide (n < 0)) (n.natAbs * 2 ^ ((0 : Int) - last).toNat) last := hx
    refine ⟨val_of (base := last) hrd (by omega) hle ?_, _, _, hrd, .inr (by have := log2_le (b := 23) hub; omega)⟩
    rw [signed_pow, show (last - last).toNat = 0 by omega, Int.pow_zero, Int.mul_one, show ((0 : Int) - last).toNat = (-last).toNat by omega]
    push_cast
    by_cases hn : n < 0
    · rw [decide_eq_true hn, if_pos rfl, ← Int.neg_mul]
      congr 1; omega
    · rw [decide_eq_false hn, if_neg (by simp)]
      congr 1; omega
theorem val_not_nan {b : Nat} {i : Int} (h : Val b i) : isNaN b = false := by
  obtain ⟨s, m, p, h1, _⟩ := h
  rw [isNaN_iff, h1]; rfl
theorem ofInt_canon (n : Int) : canon (floatOfInt .f32 n) = floatOfInt .f32 n := by
  refine canon_of_num ?_
  rw [isNaN_iff]
  have hd : floatOfInt .f32 n = FloatKind.f32.format.nearest (decide (n < 0)) n.natAbs 0 := rfl
  unfold rd
  rw [hd]
  rcases read_nearest FloatKind.f32.format (decide (n < 0)) n.natAbs 0 with ⟨k, l, h, _⟩ | h <;> rw [h] <;> rfl
/-- A sum of whole numbers, written. -/
theorem sum_whole {a c : Int} {s t : Bool} {m n : Nat} {p q : Int} (ha : ∀ base : Int, base ≤ p → base ≤ 0 → signed s m (p - base).toNat = a * 2 ^ (-base).toNat)
    (hc : ∀ base : Int, base ≤ q → base ≤ 0 → signed t n (q - base).toNat = c * 2 ^ (-base).toNat) (hz : a + c = 0 → (s && t) = false) :
    ((Datum.number s m p).sum (.number t n q)).map FloatKind.f32.format.write = some (floatOfInt .f32 (a + c)) := by
  -- both at one place
  have hg : ∀ base : Int, base ≤ p → base ≤ q → base ≤ 0 → signed s m (p - base).toNat + signed t n (q - base).toNat = (a + c) * 2 ^ (-base).toNat := fun base h1 h2 h3 => by
    rw [ha base h1 h3, hc base h2 h3, Int.add_mul]
  simp only [Datum.sum, Option.map_some]
  congr 1
  obtain ⟨base, hb⟩ : ∃ base, base = min p q := ⟨_, rfl⟩
  rw [← hb]
  obtain ⟨T, hT⟩ : ∃ T, T = signed s m (p - base).toNat + signed t n (q - base).toNat := ⟨_, rfl⟩
  rw [← hT]
  show FloatKind.f32.format.nearest _ _ _ = FloatKind.f32.format.nearest (decide (a + c < 0)) (a + c).natAbs 0
  -- at a place not above 0
  obtain ⟨b2, hb2⟩ : ∃ b2, b2 = min base 0 := ⟨_, rfl⟩
  have hT2 : T * 2 ^ (base - b2).toNat = (a + c) * 2 ^ (-b2).toNat := by
    rw [← hg b2 (by omega) (by omega) (by omega), hT, Int.add_mul, signed_pow, signed_pow, signed_pow, signed_pow, Int.mul_assoc, Int.mul_assoc, ← Int.pow_add, ← Int.pow_add, show (p - base).toNat + (base - b2).toNat = (p - b2).toNat by omega, show (q - base).toNat + (base - b2).toNat = (q - b2).toNat by omega]
  have hN : T.natAbs * 2 ^ (base - b2).toNat = (a + c).natAbs * 2 ^ (-b2).toNat := by
    have := congrArg Int.natAbs hT2
    rw [Int.natAbs_mul, Int.natAbs_mul, Int.natAbs_pow, Int.natAbs_pow] at this
    exact this
  have e1 := nearest_scale FloatKind.f32.format (if T = 0 then s && t else decide (T < 0)) T.natAbs (base - b2).toNat base
  rw [show base - ((base - b2).toNat : Int) = b2 by omega, hN] at e1
  have e2 := nearest_scale FloatKind.f32.format (if T = 0 then s && t else decide (T < 0)) (a + c).natAbs (-b2).toNat 0
  rw [show (0 : Int) - ((-b2).toNat : Int) = b2 by omega] at e2
  rw [← e1, e2]
  congr 1
  have q1 := pow_pos' (base - b2).toNat
  have q2 := pow_pos' (-b2).toNat
  by_cases h0 : T = 0
  · have hac : a + c = 0 := by
      rw [h0, Int.zero_mul] at hT2
      rcases Int.mul_eq_zero.1 hT2.symm with h | h
      · exact h
      · omega
    rw [if_pos h0, hz hac, hac]; rfl
  · rw [if_neg h0]
    have hiff : T < 0 ↔ a + c < 0 := by
      constructor
      · intro h
        have : (a + c) * 2 ^ (-b2).toNat < 0 := by rw [← hT2]; exact Int.mul_neg_of_neg_of_pos h q1
        by_cases hh : 0 ≤ a + c
        · have := Int.mul_nonneg hh (Int.le_of_lt q2); omega
        · omega
      · intro h
        have : T * 2 ^ (base - b2).toNat < 0 := by rw [hT2]; exact Int.mul_neg_of_neg_of_pos h q2
        by_cases hh : 0 ≤ T
        · have := Int.mul_nonneg hh (Int.le_of_lt q1); omega
        · omega
    exact decide_eq_decide.2 hiff
theorem fop_add_whole {x y : Nat} {i j : Int} (hx : Val x i) (hy : Val y j) (hz : i + j = 0 → ∀ s m p t n q, rd x = .number s m p → rd y = .number t n q → (s && t) = false) : fop .add x y = floatOfInt .f32 (i + j) := by
  obtain ⟨s, m, p, h1, h2⟩ := hx
  obtain ⟨t, n, q, h3, h4⟩ := hy
  have e : floatBits .add .f32 x y = ((rd x).sum (rd y)).map FloatKind.f32.format.write := rfl
  unfold fop
  rw [e, h1, h3, sum_whole h2 h4 (fun h => hz h _ _ _ _ _ _ h1 h3), Option.map_some, Option.getD_some, ofInt_canon]
theorem fop_sub_whole {x y : Nat} {i j : Int} (hx : Val x i) (hy : Val y j) (hz : i - j = 0 → ∀ s m p t n q, rd x = .number s m p → rd y = .number t n q → (s && !t) = false) : fop .sub x y = floatOfInt .f32 (i - j) := by
  obtain ⟨s, m, p, h1, h2⟩ := hx
  obtain ⟨t, n, q, h3, h4⟩ := hy
  have e : floatBits .sub .f32 x y = ((rd x).sum (rd y).opposite).map FloatKind.f32.format.write := rfl
  unfold fop
  rw [e, h1, h3]
  have h5 : ∀ base : Int, base ≤ q → base ≤ 0 → signed (!t) n (q - base).toNat = (-j) * 2 ^ (-base).toNat := fun base a b => by rw [signed_not, h4 base a b, Int.neg_mul]
  have := sum_whole h2 h5 (fun h => hz (by omega) _ _ _ _ _ _ h1 h3)
  rw [show i + -j = i - j by omega] at this
  rw [show (Datum.number t n q).opposite = .number (!t) n q from rfl, this, Option.map_some, Option.getD_some, ofInt_canon]
/-- From a whole number another one is taken: exactly. -/
theorem sub_ofInt {x i : Int} {X : Nat} (h1 : -8388608 < x) (h2 : x < 8388608) (hX : Val X i) : fop .sub (floatOfInt .f32 x) X = floatOfInt .f32 (x - i) := by
  obtain ⟨hv, m0, p0, hr, _⟩ := ofInt_val h1 h2
  refine fop_sub_whole hv hX (fun h s m p t n q e1 e2 => ?_)
  rw [hr] at e1
  cases e1
  by_cases hx : x < 0
  · have := (val_sign hX e2).1 (by omega)
    rw [this]; simp
  · rw [decide_eq_false hx]; rfl
theorem add_ofInt {d i : Int} {X : Nat} (h1 : -8388608 < d) (h2 : d < 8388608) (hX : Val X i) : fop .add X (floatOfInt .f32 d) = floatOfInt .f32 (i + d) := by
  obtain ⟨hv, m0, p0, hr, _⟩ := ofInt_val h1 h2
  refine fop_add_whole hX hv (fun h s m p t n q e1 e2 => ?_)
  rw [hr] at e2
  cases e2
  by_cases hd : d < 0
  · have := (val_sign hX e1).2 (by omega)
    rw [this]; rfl
  · rw [decide_eq_false hd, Bool.and_false]
/-- What is not too great is a number. -/
theorem finite_write (s : Bool) (m : Nat) (p : Int) (h : m = 0 ∨ p + m.log2 ≤ 126) : ∃ k l, rd (FloatKind.f32.format.nearest s m p) = .number s k l := by
  by_cases hm : m = 0
  · subst hm; exact ⟨_, _, nearest_zero _ _ _⟩
  have hp : p + m.log2 ≤ 126 := by rcases h with h | h; · exact absurd h hm
                                   · exact h
  have hf : FloatKind.f32.format.fractionBits = 23 := rfl
  have hlp : FloatKind.f32.format.leastPlace = -149 := by decide
  unfold rd
  unfold Format.nearest
  rw [if_neg hm, hf, hlp, f32_inf, f32_binade]
  obtain ⟨last, hlast⟩ : ∃ last, last = max (p + m.log2 - (23 : Nat)) (-149) := ⟨_, rfl⟩
  simp only [← hlast]
  have hkept : Toward.even.cut s (m <<< (p - last).toNat) (last - p).toNat ≤ 16777216 := by
    rw [Nat.shiftLeft_eq]
    have hub : m < 2 ^ (m.log2 + 1) := Nat.lt_log2_self
    have e24 : (2 : Nat) ^ 24 = 16777216 := by decide
    by_cases hd : last ≤ p
    · rw [show (last - p).toNat = 0 by omega, cut_none]
      have b : m * 2 ^ (p - last).toNat < 2 ^ (m.log2 + 1) * 2 ^ (p - last).toNat := Nat.mul_lt_mul_of_pos_right hub (Nat.two_pow_pos _)
      rw [← Nat.pow_add] at b
      have := Nat.lt_of_lt_of_le b (Nat.pow_le_pow_right (by omega) (show m.log2 + 1 + (p - last).toNat ≤ 24 by omega))
      omega
    · rw [show (p - last).toNat = 0 by omega, Nat.pow_zero, Nat.mul_one, cut_even s m _ _ rfl]
      generalize hg : min (last - p).toNat (m.log2 + 2) = g
      have hlow : m / 2 ^ g < 2 ^ 24 := by
        rw [Nat.div_lt_iff_lt_mul (Nat.two_pow_pos g), ← Nat.pow_add]
        exact Nat.lt_of_lt_of_le hub (Nat.pow_le_pow_right (by omega) (by omega))
      have hb : ∀ b : Bool, b.toNat ≤ 1 := by decide
      have := hb (decide (2 ^ g < 2 * (m % 2 ^ g)) || (2 ^ g == 2 * (m % 2 ^ g) && m / 2 ^ g % 2 == 1))
      omega
  generalize Toward.even.cut s (m <<< (p - last).toNat) (last - p).toNat = K at hkept
  rw [Nat.min_eq_left (by omega)]
  have hsw : (last - -149).toNat * 8388608 + K < FloatKind.f32.format.signWeight := by
    have : FloatKind.f32.format.signWeight = 2147483648 := by decide
    omega
  rw [read_word _ s _ hsw, f32_inf, f32_binade]
  split
  · exact ⟨_, _, rfl⟩
  · rw [if_pos (by omega)]
    exact ⟨_, _, rfl⟩
end

section
open Go.RowKit Ieee

/-- What is kept of a number: at most two to its length. -/
theorem kept_le (s : Bool) {m : Nat} (p last : Int) (hm : m ≠ 0) : (p + m.log2 + 1 < last → Toward.even.cut s (m <<< (p - last).toNat) (last - p).toNat = 0) ∧ (last ≤ p + m.log2 + 1 → Toward.even.cut s (m <<< (p - last).toNat) (last - p).toNat ≤ 2 ^ (p + m.log2 + 1 - last).toNat) := by
  have hub : m < 2 ^ (m.log2 + 1) := Nat.lt_log2_self
  simp only [Nat.shiftLeft_eq]
  constructor
  · intro h
    rw [show (p - last).toNat = 0 by omega, Nat.pow_zero, Nat.mul_one, cut_even s m _ _ rfl, show min (last - p).toNat (m.log2 + 2) = m.log2 + 2 by omega]
    have h2 : (2 : Nat) ^ (m.log2 + 2) = 2 * 2 ^ (m.log2 + 1) := by rw [Nat.pow_succ]; omega
    have hlt : m < 2 ^ (m.log2 + 2) := by omega
    rw [Nat.div_eq_of_lt hlt, Nat.mod_eq_of_lt hlt]
    have a : decide (2 ^ (m.log2 + 2) < 2 * m) = false := decide_eq_false (by omega)
    rw [a]; simp
  · intro h
    by_cases hd : last ≤ p
    · rw [show (last - p).toNat = 0 by omega, cut_none]
      have b : m * 2 ^ (p - last).toNat < 2 ^ (m.log2 + 1) * 2 ^ (p - last).toNat := Nat.mul_lt_mul_of_pos_right hub (Nat.two_pow_pos _)
      rw [← Nat.pow_add, show m.log2 + 1 + (p - last).toNat = (p + m.log2 + 1 - last).toNat by omega] at b
      omega
    · rw [show (p - last).toNat = 0 by omega, Nat.pow_zero, Nat.mul_one, cut_even s m _ _ rfl, show min (last - p).toNat (m.log2 + 2) = (last - p).toNat by omega]
      have hlow : m / 2 ^ (last - p).toNat < 2 ^ (p + m.log2 + 1 - last).toNat := by
        rw [Nat.div_lt_iff_lt_mul (Nat.two_pow_pos _), ← Nat.pow_add, show (p + m.log2 + 1 - last).toNat + (last - p).toNat = m.log2 + 1 by omega]
        exact hub
      have hb : ∀ b : Bool, b.toNat ≤ 1 := by decide
      have := hb (decide (2 ^ (last - p).toNat < 2 * (m % 2 ^ (last - p).toNat)) || (2 ^ (last - p).toNat == 2 * (m % 2 ^ (last - p).toNat) && m / 2 ^ (last - p).toNat % 2 == 1))
      omega
theorem log2_of_le {k e : Nat} (hk : k ≠ 0) (h : k ≤ 2 ^ e) : k.log2 ≤ e := by
  have := Nat.log2_lt hk |>.2 (show k < 2 ^ (e + 1) by rw [Nat.pow_succ]; omega)
  omega
/-- A number that is written and read: at most twice as great. -/
theorem write_bound (f : Format) (hi : f.binade ≤ f.infRung) {s t : Bool} {m k : Nat} {p l : Int} (hm : m ≠ 0) (h : f.read (f.nearest s m p) = .number t k l) : k = 0 ∨ l + k.log2 ≤ p + m.log2 + 1 := by
  unfold Format.nearest at h
  rw [if_neg hm] at h
  obtain ⟨last, hlast⟩ : ∃ last, last = max (p + m.log2 - f.fractionBits) f.leastPlace := ⟨_, rfl⟩
  simp only [← hlast] at h
  obtain ⟨k1, k2⟩ := kept_le s p last hm
  generalize Toward.even.cut s (m <<< (p - last).toNat) (last - p).toNat = K at h k1 k2
  have hbe : f.binade = 2 ^ f.fractionBits := rfl
  have hb0 : 0 < f.binade := Nat.two_pow_pos _
  have hlt := f.infRung_lt
  obtain ⟨A, hA⟩ : ∃ A, A = (last - f.leastPlace).toNat * f.binade + K := ⟨_, rfl⟩
  rw [← hA] at h
  obtain ⟨R, hR⟩ : ∃ R, R = min A f.infRung := ⟨_, rfl⟩
  rw [← hR, read_word f s _ (by omega)] at h
  by_cases c1 : R < f.binade
  · rw [if_pos c1] at h
    simp only [Datum.number.injEq] at h
    obtain ⟨_, rfl, rfl⟩ := h
    have hRA : R = A := by omega
    have hz : (last - f.leastPlace).toNat = 0 := by
      rcases Nat.eq_zero_or_pos (last - f.leastPlace).toNat with h0 | h0
      · exact h0
      · have := Nat.le_mul_of_pos_left f.binade h0; omega
    rw [hz, Nat.zero_mul, Nat.zero_add] at hA
    by_cases hk : R = 0
    · exact .inl hk
    · right
      by_cases hE : p + m.log2 + 1 < last
      · have := k1 hE; omega
      · have := log2_of_le hk (by rw [hRA, hA]; exact k2 (by omega))
        omega
  · rw [if_neg c1] at h
    by_cases c2 : R < f.infRung
    · rw [if_pos c2] at h
      simp only [Datum.number.injEq] at h
      obtain ⟨_, rfl, rfl⟩ := h
      right
      have hRA : R = A := by omega
      have hmod : R % f.binade < f.binade := Nat.mod_lt _ hb0
      have hlog : (f.binade + R % f.binade).log2 = f.fractionBits := by
        have a : f.fractionBits ≤ (f.binade + R % f.binade).log2 := by rw [Nat.le_log2 (by omega), ← hbe]; omega
        have b : (f.binade + R % f.binade).log2 < f.fractionBits + 1 := by rw [Nat.log2_lt (by omega), Nat.pow_succ, ← hbe]; omega
        omega
      rw [hlog]
      have hE : last ≤ p + m.log2 + 1 := by
        rcases Int.lt_or_le (p + m.log2 + 1) last with hE | hE
        · exfalso
          have hK := k1 hE
          have : (last - f.leastPlace).toNat = 0 := by omega
          rw [this, hK] at hA
          omega
        · exact hE
      have hK := k2 hE
      have hdiv : R / f.binade * f.binade ≤ R := Nat.div_mul_le_self _ _
      by_cases hg : f.leastPlace < last
      · have hE2 : (p + m.log2 + 1 - last).toNat = f.fractionBits + 1 := by omega
        rw [hE2, Nat.pow_succ, ← hbe] at hK
        have : R / f.binade < (last - f.leastPlace).toNat + 3 := by
          rw [Nat.div_lt_iff_lt_mul hb0, hRA, hA, Nat.add_mul]
          omega
        omega
      · have hz : (last - f.leastPlace).toNat = 0 := by omega
        rw [hz, Nat.zero_mul, Nat.zero_add] at hA
        have hE3 : (p + m.log2 + 1 - last).toNat ≤ f.fractionBits + 1 := by omega
        have hfE : f.fractionBits ≤ (p + m.log2 + 1 - last).toNat := by
          rcases Nat.lt_or_ge (p + m.log2 + 1 - last).toNat f.fractionBits with h1 | h1
          · exfalso
            have := Nat.pow_lt_pow_right (show 1 < 2 by omega) h1
            omega
          · exact h1
        rcases (by omega : (p + m.log2 + 1 - last).toNat = f.fractionBits ∨ (p + m.log2 + 1 - last).toNat = f.fractionBits + 1) with h1 | h1
        · rw [h1, ← hbe] at hK
          have : R = f.binade := by omega
          rw [this, Nat.div_self hb0]
          omega
        · rw [h1, Nat.pow_succ, ← hbe] at hK
          have : R / f.binade < 3 := by rw [Nat.div_lt_iff_lt_mul hb0]; omega
          omega
    · rw [if_neg c2] at h
      split at h <;> cases h
/-- What is not too great for a format is a number of it. -/
theorem finite_gen (f : Format) (s : Bool) (m : Nat) (p : Int) (hi : f.binade ≤ f.infRung) (h : m = 0 ∨ (p + m.log2 - f.fractionBits - f.leastPlace).toNat * f.binade + 2 * f.binade < f.infRung) : ∃ k l, f.read (f.nearest s m p) = .number s k l := by
  by_cases hm : m = 0
  · subst hm; exact ⟨_, _, nearest_zero _ _ _⟩
  have h : (p + m.log2 - f.fractionBits - f.leastPlace).toNat * f.binade + 2 * f.binade < f.infRung := by
    rcases h with h | h
    · exact absurd h hm
    · exact h
  unfold Format.nearest
  rw [if_neg hm]
  obtain ⟨last, hlast⟩ : ∃ last, last = max (p + m.log2 - f.fractionBits) f.leastPlace := ⟨_, rfl⟩
  simp only [← hlast]
  obtain ⟨k1, k2⟩ := kept_le s p last hm
  generalize Toward.even.cut s (m <<< (p - last).toNat) (last - p).toNat = K at k1 k2
  have hbe : f.binade = 2 ^ f.fractionBits := rfl
  have hb0 : 0 < f.binade := Nat.two_pow_pos _
  have hK : K ≤ 2 * f.binade := by
    rcases Int.lt_or_le (p + m.log2 + 1) last with hE | hE
    · rw [k1 hE]; omega
    · have h1 := k2 hE
      have h2 : (2 : Nat) ^ (p + m.log2 + 1 - last).toNat ≤ 2 ^ (f.fractionBits + 1) := Nat.pow_le_pow_right (by omega) (by omega)
      rw [Nat.pow_succ, ← hbe] at h2
      omega
  have hL : (last - f.leastPlace).toNat = (p + m.log2 - f.fractionBits - f.leastPlace).toNat := by omega
  rw [hL]
  generalize (p + m.log2 - f.fractionBits - f.leastPlace).toNat * f.binade = Q at h
  have hlt := f.infRung_lt
  rw [Nat.min_eq_left (by omega), read_word f s _ (by omega)]
  split
  · exact ⟨_, _, rfl⟩
  · rw [if_pos (by omega)]
    exact ⟨_, _, rfl⟩
theorem narrow_ok {x : Nat} {s : Bool} {k : Nat} {l : Int} (h : FloatKind.f64.decode x = .number s k l) (hb : k = 0 ∨ l + k.log2 ≤ 126) : ∃ r, floatToFloatBits .f64 x .f32 = some r ∧ ∃ k' l', rd r = .number s k' l' := by
  obtain ⟨k', l', hr⟩ := finite_write s k l hb
  refine ⟨FloatKind.f32.encode (.number s k l), ?_, k', l', hr⟩
  unfold floatToFloatBits
  rw [if_neg (by decide), h]
  have hr2 : FloatKind.f32.decode (FloatKind.f32.encode (.number s k l)) = .number s k' l' := hr
  simp only [hr2]
  rfl
theorem abs_bits (r : Nat) : (bits .andNot .u64 (r : Int) 9223372036854775808).toNat = r % 9223372036854775808 := by
  have hc : ~~~(BitVec.ofInt 64 9223372036854775808) = BitVec.ofNat 64 (2 ^ 63 - 1) := by decide
  have hx : ((BitVec.ofInt 64 (r : Int)) &&& ~~~(BitVec.ofInt 64 9223372036854775808)).toNat = r % 9223372036854775808 := by
    rw [hc, BitVec.toNat_and, BitVec.toNat_ofNat, BitVec.ofInt_natCast, BitVec.toNat_ofNat, Nat.mod_eq_of_lt (show 2 ^ 63 - 1 < 2 ^ 64 by decide), Nat.and_two_pow_sub_one_eq_mod]
    omega
  have hw : bits .andNot .u64 (r : Int) 9223372036854775808 = IntKind.u64.wrap (((BitVec.ofInt 64 (r : Int)) &&& ~~~(BitVec.ofInt 64 9223372036854775808)).toNat : Int) := rfl
  rw [hw, hx]
  have : IntKind.u64.wrap ((r % 9223372036854775808 : Nat) : Int) = ((r % 9223372036854775808 : Nat) : Int) := by
    show ((r % 9223372036854775808 : Nat) : Int) % 18446744073709551616 = _
    omega
  rw [this]; rfl
theorem read_abs {r : Nat} {s : Bool} {k : Nat} {l : Int} (h : FloatKind.f64.decode r = .number s k l) : FloatKind.f64.decode (r % 9223372036854775808) = .number false k l := by
  have hs : FloatKind.f64.format.signWeight = 9223372036854775808 := by decide
  unfold FloatKind.decode Format.read at h ⊢
  rw [hs] at h ⊢
  simp only [Nat.mod_mod] at h ⊢
  have hn : (r % 9223372036854775808 / 9223372036854775808 % 2 == 1) = false := by rw [Nat.div_eq_of_lt (Nat.mod_lt _ (by omega))]; rfl
  rw [hn]
  split at h
  · rename_i c; rw [if_pos c]; cases h; rfl
  · rename_i c
    rw [if_neg c]
    split at h
    · rename_i c2; rw [if_pos c2]; cases h; rfl
    · split at h <;> cases h
/-- The magnitude of a single (through doubles, behind Clean). -/
def absF (b : Nat) : Nat := canon (((floatToFloatBits .f32 b .f64).bind fun r1 => floatToFloatBits .f64 (bits .andNot .u64 r1 9223372036854775808).toNat .f32).getD 0)
theorem abs_ok {b : Nat} {s : Bool} {m : Nat} {i : Int} (h : rd b = .number s m i) (hb : m = 0 ∨ i + m.log2 ≤ 126) : ∃ r1 r3, floatToFloatBits .f32 b .f64 = some r1 ∧ floatToFloatBits .f64 (bits .andNot .u64 r1 9223372036854775808).toNat .f32 = some r3 ∧ canon r3 = absF b ∧ ∃ k l, rd (absF b) = .number false k l := by
  obtain ⟨r1, k, l, e1, e2, e3, _, e5⟩ := widen b s m i h
  have e6 := read_abs e2
  rw [← abs_bits] at e6
  have hk : k = 0 ∨ l + k.log2 ≤ 126 := by
    rcases hb with h0 | h0
    · left; rw [e5, h0, Nat.zero_mul]
    · by_cases hm : m = 0
      · left; rw [e5, hm, Nat.zero_mul]
      · right; rw [e5, log2_mul_pow _ hm]; omega
  obtain ⟨r3, e7, k', l', e8⟩ := narrow_ok e6 hk
  have hc : canon r3 = r3 := canon_of_num (by rw [isNaN_iff, e8]; rfl)
  have ha : absF b = r3 := by unfold absF; rw [e1, Option.bind_some, e7, Option.getD_some, hc]
  exact ⟨r1, r3, e1, e7, by rw [ha, hc], k', l', by rw [ha]; exact e8⟩
theorem rootFrom_le (n todo root : Nat) (h : root * root ≤ n) : Datum.rootFrom n todo root * Datum.rootFrom n todo root ≤ n := by
  induction todo generalizing root with
  | zero => exact h
  | succ t ih =>
    unfold Datum.rootFrom
    apply ih
    split
    · assumption
    · exact h
/-- The square root of a single (through doubles, behind Clean). -/
def rootF (b : Nat) : Nat := canon (((floatToFloatBits .f32 b .f64).bind fun r1 => (FloatKind.f64.format.sqrt r1).bind fun r2 => floatToFloatBits .f64 r2 .f32).getD 0)
theorem root_ok {b : Nat} (h : (∃ m i, rd b = .number false m i) ∨ rd b = .infinity false) : ∃ r1 r2 r3, floatToFloatBits .f32 b .f64 = some r1 ∧ FloatKind.f64.format.sqrt r1 = some r2 ∧ floatToFloatBits .f64 r2 .f32 = some r3 ∧ canon r3 = rootF b ∧ isNaN (rootF b) = false := by
  rcases h with ⟨m, i, h⟩ | h
  · obtain ⟨r1, k, l, e1, e2, e3, e4, e5⟩ := widen b false m i h
    obtain ⟨hm1, hm2, hm3⟩ := read_bd h
    have hkl : k = 0 ∨ l + k.log2 ≤ 127 := by
      by_cases hm : m = 0
      · left; rw [e5, hm, Nat.zero_mul]
      · right
        have : m.log2 ≤ 23 := log2_le (by omega)
        rw [e5, log2_mul_pow _ hm]; omega
    have hd : ∃ M P, Datum.root 54 (.number false k l) = some (.number false M P) ∧ (M = 0 ∨ P + M.log2 ≤ 66) := by
      by_cases hk : k = 0
      · exact ⟨0, l, by rw [hk]; rfl, .inl rfl⟩
      · have hkl2 : l + k.log2 ≤ 127 := by rcases hkl with h | h; · exact absurd h hk
                                           · exact h
        simp only [Datum.root, if_neg hk, Bool.false_eq_true, if_false]
        obtain ⟨more, hmore⟩ : ∃ more, more = 2 * 54 - k.log2 + ((l - (2 * 54 - k.log2 : Nat)) % 2).toNat := ⟨_, rfl⟩
        rw [← hmore]
        have hpar : (l - (more : Int)) % 2 = 0 := by omega
        refine ⟨_, _, rfl, ?_⟩
        rw [Nat.shiftLeft_eq]
        obtain ⟨w, hw⟩ : ∃ w, w = Datum.rootFrom (k * 2 ^ more) ((k * 2 ^ more).log2 / 2 + 1) 0 := ⟨_, rfl⟩
        have hle : w * w ≤ k * 2 ^ more := by rw [hw]; exact rootFrom_le _ _ 0 (by omega)
        rw [← hw]
        have hbit : ∀ b : Bool, b.toNat ≤ 1 := by decide
        have hb1 := hbit (w * w != k * 2 ^ more)
        generalize (w * w != k * 2 ^ more).toNat = c at hb1
        by_cases hw0 : w = 0
        · right
          have : (2 * w + c).log2 ≤ 0 := log2_le (by omega)
          omega
        · right
          have h1 : 2 ^ w.log2 ≤ w := Nat.log2_self_le hw0
          have h2 : 2 ^ (2 * w.log2) ≤ k * 2 ^ more := by
            have := Nat.mul_le_mul h1 h1
            rw [← Nat.pow_add] at this
            rw [show 2 * w.log2 = w.log2 + w.log2 by omega]
            omega
          have h3 : 2 * w.log2 ≤ k.log2 + more := by
            rw [← log2_mul_pow more hk]
            exact (Nat.le_log2 (Nat.mul_ne_zero hk (Nat.ne_of_gt (Nat.two_pow_pos more)))).2 h2
          have h4 : (2 * w + c).log2 ≤ w.log2 + 1 := by
            have : w < 2 ^ (w.log2 + 1) := Nat.lt_log2_self
            refine log2_le ?_
            rw [Nat.pow_succ]; omega
          omega
    obtain ⟨M, P, hd1, hd2⟩ := hd
    have hsq : FloatKind.f64.format.sqrt r1 = some (FloatKind.f64.format.nearest false M P) := by
      show ((FloatKind.f64.format.read r1).root (52 + 2)).map FloatKind.f64.format.write = _
      have e2' : FloatKind.f64.format.read r1 = .number false k l := e2
      rw [e2', hd1]; rfl
    have hi64 : FloatKind.f64.format.binade ≤ FloatKind.f64.format.infRung := by rw [f64_binade, f64_inf]; decide
    obtain ⟨k2, l2, hr2⟩ := finite_gen FloatKind.f64.format false M P hi64 (by
      rcases hd2 with h0 | h0
      · exact .inl h0
      · right
        rw [f64_binade, f64_inf, f64_least, f64_frac]
        have : (P + M.log2 - (52 : Nat) - -1074).toNat ≤ 1090 := by omega
        have := Nat.mul_le_mul_right 4503599627370496 this
        omega)
    have hb2 : k2 = 0 ∨ l2 + k2.log2 ≤ 126 := by
      rcases hd2 with h0 | h0
      · left
        rw [h0] at hr2
        have := nearest_zero FloatKind.f64.format false P
        rw [this] at hr2
        cases hr2; rfl
      · by_cases hM : M = 0
        · left
          rw [hM] at hr2
          have := nearest_zero FloatKind.f64.format false P
          rw [this] at hr2
          cases hr2; rfl
        · rcases write_bound FloatKind.f64.format hi64 hM hr2 with h1 | h1
          · exact .inl h1
          · right; omega
    obtain ⟨r3, e7, k', l', e8⟩ := narrow_ok (x := FloatKind.f64.format.nearest false M P) hr2 hb2
    have hc : canon r3 = r3 := canon_of_num (by rw [isNaN_iff, e8]; rfl)
    have ha : rootF b = r3 := by unfold rootF; rw [e1, Option.bind_some, hsq, Option.bind_some, e7, Option.getD_some, hc]
    exact ⟨r1, _, r3, e1, hsq, e7, by rw [ha, hc], by rw [ha, isNaN_iff, e8]; rfl⟩
  · have e1 : floatToFloatBits .f32 b .f64 = some (FloatKind.f64.encode (.infinity false)) := by
      have hd : FloatKind.f32.decode b = .infinity false := h
      unfold floatToFloatBits
      rw [if_neg (by decide), hd]
    have e2 : FloatKind.f64.format.sqrt (FloatKind.f64.encode (.infinity false)) = some (FloatKind.f64.encode (.infinity false)) := by decide
    have e3 : floatToFloatBits .f64 (FloatKind.f64.encode (.infinity false)) .f32 = some 2139095040 := by decide
    have hc : canon 2139095040 = 2139095040 := by decide
    have ha : rootF b = 2139095040 := by unfold rootF; rw [e1, Option.bind_some, e2, Option.bind_some, e3, Option.getD_some, hc]
    exact ⟨_, _, _, e1, e2, e3, by rw [ha, hc], by rw [ha]; decide⟩
end

section
open Go.RowKit Ieee

/-- The whole number nearest to X / B; between two, the even one. -/
def rhe (X B : Nat) : Nat := X / B + (decide (B < 2 * (X % B)) || (B == 2 * (X % B) && X / B % 2 == 1)).toNat

theorem rhe_lt {X B : Nat} (h : 2 * (X % B) < B) : rhe X B = X / B := by
  unfold rhe
  rw [decide_eq_false (by omega), show (B == 2 * (X % B)) = false by simp; omega]
  rfl
theorem rhe_gt {X B : Nat} (h : B < 2 * (X % B)) : rhe X B = X / B + 1 := by
  unfold rhe
  rw [decide_eq_true h]
  rfl
theorem rhe_eq {X B : Nat} (h : B = 2 * (X % B)) : rhe X B = X / B + X / B % 2 := by
  unfold rhe
  rw [decide_eq_false (by omega), show (B == 2 * (X % B)) = true by simpa using h]
  rcases (by omega : X / B % 2 = 0 ∨ X / B % 2 = 1) with e | e <;> rw [e] <;> rfl
theorem rhe_mul (X B c : Nat) (hc : 0 < c) : rhe (X * c) (B * c) = rhe X B := by
  unfold rhe
  rw [Nat.mul_div_mul_right _ _ hc, Nat.mul_mod_mul_right]
  congr 3
  · rw [decide_eq_decide, ← Nat.mul_assoc]
    exact Nat.mul_lt_mul_right hc
  · congr 1
    rw [Bool.eq_iff_iff, beq_iff_eq, beq_iff_eq, ← Nat.mul_assoc]
    exact Nat.mul_right_cancel_iff hc
/-- The two bounds tell the rounded number, where it is no tie. -/
theorem rhe_parts {q P r : Nat} (hr : r < P) : (q * P + r) / P = q ∧ (q * P + r) % P = r := by
  have hP : 0 < P := by omega
  constructor
  · rw [Nat.add_comm, Nat.add_mul_div_right _ _ hP, Nat.div_eq_of_lt hr]; omega
  · rw [Nat.add_comm, Nat.add_mul_mod_self_right, Nat.mod_eq_of_lt hr]
theorem cut_rhe (neg : Bool) (n d : Nat) : Toward.even.cut neg n d = rhe n (2 ^ d) := by
  by_cases h : d ≤ n.log2 + 2
  · rw [cut_even neg n d d (by omega)]; rfl
  · have h0 : n < 2 ^ (n.log2 + 1) := Nat.lt_log2_self
    have h1 : (2 : Nat) ^ (n.log2 + 2) = 2 * 2 ^ (n.log2 + 1) := by rw [show n.log2 + 2 = (n.log2 + 1) + 1 by omega, Nat.pow_succ]; omega
    have h2 : (2 : Nat) ^ (n.log2 + 2) ≤ 2 ^ d := Nat.pow_le_pow_right (by omega) (by omega)
    rw [cut_even neg n d (n.log2 + 2) (by omega)]
    have a : rhe n (2 ^ (n.log2 + 2)) = 0 := by
      rw [rhe_lt (by rw [Nat.mod_eq_of_lt (by omega)]; omega), Nat.div_eq_of_lt (by omega)]
    have b : rhe n (2 ^ d) = 0 := by
      rw [rhe_lt (by rw [Nat.mod_eq_of_lt (by omega)]; omega), Nat.div_eq_of_lt (by omega)]
    rw [b]
    exact a
/-- Rounded twice is rounded once, but for a tie that the first rounding made. -/
theorem rhe_twice {X P H : Nat} (hP : 0 < P) (hH : 0 < H) (h : X % P = 0 ∨ rhe X P % (2 * H) ≠ H) : rhe (rhe X P) (2 * H) = rhe X (P * (2 * H)) := by
  obtain ⟨a, ha⟩ : ∃ a, a = X / P := ⟨_, rfl⟩
  obtain ⟨r, hr⟩ : ∃ r, r = X % P := ⟨_, rfl⟩
  have hrP : r < P := by rw [hr]; exact Nat.mod_lt _ hP
  have hX : X = a * P + r := by rw [ha, hr, Nat.mul_comm]; exact (Nat.div_add_mod X P).symm
  by_cases h0 : r = 0
  · have e : rhe X P = a := by rw [rhe_lt (by rw [← hr]; omega), ha]
    rw [e, hX, h0, Nat.add_zero, Nat.mul_comm P, rhe_mul _ _ _ hP]
  have hn : rhe X P % (2 * H) ≠ H := by rcases h with h | h; · omega
                                        · exact h
  obtain ⟨q, hq⟩ : ∃ q, q = a / (2 * H) := ⟨_, rfl⟩
  obtain ⟨t, ht⟩ : ∃ t, t = a % (2 * H) := ⟨_, rfl⟩
  have htH : t < 2 * H := by rw [ht]; exact Nat.mod_lt _ (by omega)
  have hA : a = q * (2 * H) + t := by rw [hq, ht, Nat.mul_comm]; exact (Nat.div_add_mod a (2 * H)).symm
  have tP1 : ∀ k, t ≤ k → t * P ≤ k * P := fun k hk => Nat.mul_le_mul_right _ hk
  have tP2 : ∀ k, k ≤ t → k * P ≤ t * P := fun k hk => Nat.mul_le_mul_right _ hk
  have hbig : t * P + r < P * (2 * H) := by
    have := tP1 (2 * H - 1) (by omega)
    have e : (2 * H - 1) * P + P = P * (2 * H) := by rw [← Nat.succ_mul, show Nat.succ (2 * H - 1) = 2 * H by omega, Nat.mul_comm]
    omega
  have hXX : X = q * (P * (2 * H)) + (t * P + r) := by rw [hX, hA, Nat.add_mul, Nat.mul_assoc, Nat.mul_comm (2 * H) P, Nat.add_assoc]
  obtain ⟨d1, d2⟩ := rhe_parts (q := q) hbig
  rw [← hXX] at d1 d2
  have eH : P * (2 * H) = 2 * (H * P) := by rw [Nat.mul_left_comm, Nat.mul_comm P H]
  have low : t < H → rhe X (P * (2 * H)) = q := fun ht => by
    rw [rhe_lt, d1]
    have := tP1 (H - 1) (by omega)
    have e : (H - 1) * P + P = H * P := by rw [← Nat.succ_mul, show Nat.succ (H - 1) = H by omega]
    rw [d2, eH]; omega
  have high : H ≤ t → rhe X (P * (2 * H)) = q + 1 := fun ht => by
    rw [rhe_gt, d1]
    have := tP2 H ht
    rw [d2, eH]; omega
  have fin : ∀ N, rhe X P = N → (N = a ∨ N = a + 1 ∧ P ≤ 2 * r) → rhe N (2 * H) = rhe X (P * (2 * H)) := by
    intro N hN hc
    rw [hN] at hn
    rcases hc with rfl | ⟨rfl, hc⟩
    · rw [← ht] at hn
      rcases Nat.lt_or_ge t H with h1 | h1
      · rw [low h1, rhe_lt (by rw [← ht]; omega), ← hq]
      · rw [high h1, rhe_gt (by rw [← ht]; omega), ← hq]
    · by_cases hl : t + 1 < 2 * H
      · obtain ⟨e1, e2⟩ := rhe_parts (q := q) (P := 2 * H) hl
        rw [← Nat.add_assoc, ← hA] at e1 e2
        rw [e2] at hn
        rcases Nat.lt_or_ge (t + 1) H with h1 | h1
        · rw [low (by omega), rhe_lt (by rw [e2]; omega), e1]
        · rw [high (by omega), rhe_gt (by rw [e2]; omega), e1]
      · have e : a + 1 = (q + 1) * (2 * H) + 0 := by rw [hA, Nat.add_mul]; omega
        obtain ⟨e1, e2⟩ := rhe_parts (q := q + 1) (P := 2 * H) (r := 0) (by omega)
        rw [e, rhe_lt (by rw [e2]; omega), e1, high (by omega)]
  refine fin _ rfl ?_
  rcases Nat.lt_trichotomy (2 * r) P with h1 | h1 | h1
  · left; rw [rhe_lt (by rw [← hr]; omega), ha]
  · rw [rhe_eq (by rw [← hr]; omega), ← ha]; omega
  · right; rw [rhe_gt (by rw [← hr]; omega), ha]; omega
/-- How far the rounded number may lie. -/
theorem rhe_near {X P : Nat} (hP : 0 < P) : 2 * X ≤ 2 * (rhe X P * P) + P ∧ 2 * (rhe X P * P) ≤ 2 * X + P := by
  have hX : X / P * P + X % P = X := by rw [Nat.mul_comm]; exact Nat.div_add_mod X P
  have hr := Nat.mod_lt X hP
  rcases Nat.lt_trichotomy (2 * (X % P)) P with h1 | h1 | h1
  · rw [rhe_lt h1]; omega
  · rw [rhe_eq h1.symm]
    rcases (by omega : X / P % 2 = 0 ∨ X / P % 2 = 1) with e | e <;> rw [e]
    · rw [Nat.add_zero]; omega
    · rw [Nat.add_mul]; omega
  · rw [rhe_gt h1, Nat.add_mul]; omega
end

section
open Go.RowKit Ieee

theorem rhe_sticky {X b d : Nat} (hb : 0 < b) : rhe (2 * (X / b) + (X % b != 0).toNat) (2 ^ (d + 2)) = rhe X (b * 2 ^ (d + 1)) := by
  obtain ⟨h, hh⟩ : ∃ h, h = 2 ^ d := ⟨_, rfl⟩
  have hh0 : 0 < h := by rw [hh]; exact Nat.two_pow_pos d
  have e1 : (2 : Nat) ^ (d + 1) = 2 * h := by rw [Nat.pow_succ, hh, Nat.mul_comm]
  have e2 : (2 : Nat) ^ (d + 2) = 2 * (2 * h) := by rw [show d + 2 = (d + 1) + 1 by omega, Nat.pow_succ, e1, Nat.mul_comm]
  rw [e1, e2]
  obtain ⟨Q, hQ⟩ : ∃ Q, Q = X / b := ⟨_, rfl⟩
  obtain ⟨r, hr⟩ : ∃ r, r = X % b := ⟨_, rfl⟩
  have hX : X = Q * b + r := by rw [hQ, hr, Nat.mul_comm]; exact (Nat.div_add_mod X b).symm
  have hrb : r < b := by rw [hr]; exact Nat.mod_lt _ hb
  rw [← hQ, ← hr]
  obtain ⟨c, hc⟩ : ∃ c, c = (r != 0).toNat := ⟨_, rfl⟩
  have hcc : (c = 0 ∧ r = 0) ∨ (c = 1 ∧ 0 < r) := by
    rw [hc]
    by_cases h0 : r = 0
    · left; subst h0; exact ⟨rfl, rfl⟩
    · right; rw [show (r != 0) = true by simpa using h0]; exact ⟨rfl, by omega⟩
  rw [← hc]
  clear hc hQ hr
  obtain ⟨q, hq⟩ : ∃ q, q = Q / (2 * h) := ⟨_, rfl⟩
  obtain ⟨t, ht⟩ : ∃ t, t = Q % (2 * h) := ⟨_, rfl⟩
  have htH : t < 2 * h := by rw [ht]; exact Nat.mod_lt _ (by omega)
  have hA : Q = q * (2 * h) + t := by rw [hq, ht, Nat.mul_comm]; exact (Nat.div_add_mod Q (2 * h)).symm
  have hn : 2 * Q + c = q * (2 * (2 * h)) + (2 * t + c) := by rw [hA, Nat.mul_left_comm q 2 (2 * h)]; omega
  have hb1 : t * b + r < b * (2 * h) := by
    have : (t + 1) * b ≤ 2 * h * b := Nat.mul_le_mul_right _ (by omega)
    rw [Nat.add_mul, Nat.mul_comm (2 * h)] at this
    omega
  have hXX : X = q * (b * (2 * h)) + (t * b + r) := by rw [hX, hA, Nat.add_mul, Nat.mul_assoc, Nat.mul_comm (2 * h) b, Nat.add_assoc]
  obtain ⟨d1, d2⟩ := rhe_parts (q := q) hb1
  obtain ⟨d3, d4⟩ := rhe_parts (q := q) (P := 2 * (2 * h)) (r := 2 * t + c) (by omega)
  rw [← hXX] at d1 d2
  rw [← hn] at d3 d4
  have eb : b * (2 * h) = 2 * (h * b) := by rw [Nat.mul_left_comm, Nat.mul_comm b h]
  rcases Nat.lt_trichotomy t h with h1 | h1 | h1
  · have : (t + 1) * b ≤ h * b := Nat.mul_le_mul_right _ (by omega)
    rw [Nat.add_mul] at this
    rw [rhe_lt (by rw [d4]; omega), rhe_lt (by rw [d2, eb]; omega), d1, d3]
  · rcases hcc with ⟨rfl, rfl⟩ | ⟨rfl, h0⟩
    · rw [rhe_eq (by rw [d4]; omega), rhe_eq (by rw [d2, eb, h1]; omega), d1, d3]
    · rw [rhe_gt (by rw [d4]; omega), rhe_gt (by rw [d2, eb, h1]; omega), d1, d3]
  · have : (h + 1) * b ≤ t * b := Nat.mul_le_mul_right _ (by omega)
    rw [Nat.add_mul] at this
    rw [rhe_gt (by rw [d4]; omega), rhe_gt (by rw [d2, eb]; omega), d1, d3]

/-- A sum of two numbers of 24 digits is no tie behind 53 digits. -/
theorem sum_tie {n A b D : Nat} (hn : n = A * 2 ^ D + b ∨ n + b = A * 2 ^ D) (hA : A < 16777216) (hb : b < 16777216) (hL : 53 ≤ n.log2) :
    n % 2 ^ (n.log2 - 52) = 0 ∨ rhe n (2 ^ (n.log2 - 52)) % (2 * 268435456) ≠ 268435456 := by
  right
  intro hN
  have hn0 : n ≠ 0 := by rintro rfl; simp at hL
  obtain ⟨L, hLe⟩ : ∃ L, L = n.log2 := ⟨_, rfl⟩
  rw [← hLe] at hN hL
  have hlow : 2 ^ L ≤ n := by rw [hLe]; exact Nat.log2_self_le hn0
  obtain ⟨P, hP⟩ : ∃ P, P = 2 ^ (L - 52) := ⟨_, rfl⟩
  rw [← hP] at hN
  have hP2 : 2 ≤ P := by rw [hP]; exact Nat.le_trans (by decide : 2 ≤ 2 ^ 1) (Nat.pow_le_pow_right (by omega) (by omega))
  have hLP : 2 ^ L = 4503599627370496 * P := by rw [hP, show (4503599627370496 : Nat) = 2 ^ 52 by rfl, ← Nat.pow_add, show 52 + (L - 52) = L by omega]
  obtain ⟨near1, near2⟩ := rhe_near (X := n) (P := P) (by omega)
  have hbig : 4503599627370496 ≤ rhe n P := by
    have : 4503599627370496 ≤ n / P := by rw [Nat.le_div_iff_mul_le (by omega)]; omega
    exact Nat.le_trans this (by unfold rhe; omega)
  generalize rhe n P = N at hN near1 near2 hbig
  obtain ⟨q, hq⟩ : ∃ q, N = q * 536870912 + 268435456 := ⟨N / 536870912, by omega⟩
  have hq2 : 8388608 ≤ q := by omega
  have eNP : N * P = 536870912 * (q * P) + 268435456 * P := by rw [hq, Nat.add_mul, Nat.mul_comm q, Nat.mul_assoc]
  rw [eNP] at near1 near2
  have hD : 29 ≤ D := by
    rcases Nat.lt_or_ge D 29 with h | h
    · exfalso
      have h1 : A * 2 ^ D ≤ 16777215 * 2 ^ 28 := Nat.mul_le_mul (by omega) (Nat.pow_le_pow_right (by omega) (by omega))
      have h2 : (2 : Nat) ^ 53 ≤ 2 ^ L := Nat.pow_le_pow_right (by omega) hL
      have e3 : (2 : Nat) ^ 53 = 9007199254740992 := by rfl
      have e4 : 16777215 * (2 : Nat) ^ 28 = 4503599358935040 := by rfl
      omega
    · exact h
  have hqP : 8388608 * P ≤ q * P := Nat.mul_le_mul_right _ hq2
  rcases Nat.lt_or_ge (L - 24) D with h | h
  · -- an even number of steps
    obtain ⟨v, hv⟩ : ∃ v, v = A * 2 ^ (D - (L - 23)) := ⟨_, rfl⟩
    have e : A * 2 ^ D = 536870912 * (v * P) := by
      rw [hv, hP, Nat.mul_assoc, ← Nat.pow_add, show (536870912 : Nat) = 2 ^ 29 by rfl, Nat.mul_left_comm, ← Nat.pow_add]
      congr 2; omega
    rw [e] at hn
    rcases Nat.lt_or_ge q v with h1 | h1
    · have : (q + 1) * P ≤ v * P := Nat.mul_le_mul_right _ h1
      rw [Nat.add_mul] at this
      omega
    · have : v * P ≤ q * P := Nat.mul_le_mul_right _ h1
      omega
  · have h1 : A * 2 ^ D ≤ 16777215 * 2 ^ (L - 24) := Nat.mul_le_mul (by omega) (Nat.pow_le_pow_right (by omega) h)
    have e2 : 2 ^ (L - 24) = 268435456 * P := by rw [hP, show (268435456 : Nat) = 2 ^ 28 by rfl, ← Nat.pow_add, show 28 + (L - 52) = L - 24 by omega]
    rw [e2] at h1
    omega
/-- A quotient of two numbers of 24 digits is no tie behind 53 digits. -/
theorem quo_tie {a b t B : Nat} (ha : a < 16777216) (hb0 : 0 < b) (hb : b < 16777216) {e : Nat} (hB : B = b * 2 ^ e) (hbig : 4503599627370496 ≤ rhe (a * 2 ^ t) B) :
    a * 2 ^ t % B = 0 ∨ rhe (a * 2 ^ t) B % (2 * 268435456) ≠ 268435456 := by
  rcases Nat.eq_zero_or_pos (a * 2 ^ t % B) with h0 | h0
  · exact .inl h0
  right
  intro hN
  have hB0 : 0 < B := by rw [hB]; exact Nat.mul_pos hb0 (Nat.two_pow_pos e)
  obtain ⟨near1, near2⟩ := rhe_near (X := a * 2 ^ t) (P := B) hB0
  have hex : rhe (a * 2 ^ t) B * B ≠ a * 2 ^ t := by
    intro h
    rw [← h, Nat.mul_mod_left] at h0
    omega
  generalize rhe (a * 2 ^ t) B = N at hN near1 near2 hbig hex
  obtain ⟨u, hu⟩ : ∃ u, N = 268435456 * u := ⟨N / 268435456, by omega⟩
  have hNB : 4503599627370496 * B ≤ N * B := Nat.mul_le_mul_right _ hbig
  have hp : 0 < 2 ^ e := Nat.two_pow_pos e
  have heB : 2 ^ e ≤ B := by rw [hB]; exact Nat.le_mul_of_pos_left _ hb0
  rcases Nat.lt_or_ge t (e + 28) with h | h
  · have h1 : a * 2 ^ t ≤ 16777215 * (2 ^ e * 134217728) := Nat.mul_le_mul (by omega) (by rw [show (134217728 : Nat) = 2 ^ 27 by rfl, ← Nat.pow_add]; exact Nat.pow_le_pow_right (by omega) (by omega))
    generalize 2 ^ e = p at *
    generalize a * 2 ^ t = X at *
    generalize N * B = Y at *
    omega
  · obtain ⟨v, hv⟩ : ∃ v, v = a * 2 ^ (t - (e + 28)) := ⟨_, rfl⟩
    have e1 : a * 2 ^ t = 268435456 * (v * 2 ^ e) := by
      rw [hv, Nat.mul_assoc, ← Nat.pow_add, show (268435456 : Nat) = 2 ^ 28 by rfl, Nat.mul_left_comm, ← Nat.pow_add]
      congr 2; omega
    have e2 : N * B = 268435456 * (u * b * 2 ^ e) := by rw [hu, hB, Nat.mul_assoc, Nat.mul_assoc u]
    rw [e1, e2] at near1 near2 hex
    have hB2 : B < 16777216 * 2 ^ e := by rw [hB]; exact Nat.mul_lt_mul_of_pos_right hb hp
    rcases Nat.lt_trichotomy v (u * b) with h1 | h1 | h1
    · have : (v + 1) * 2 ^ e ≤ u * b * 2 ^ e := Nat.mul_le_mul_right _ h1
      rw [Nat.add_mul] at this
      generalize 2 ^ e = p at *
      generalize v * p = X at *
      generalize u * b * p = Y at *
      omega
    · exact hex (by rw [h1])
    · have : (u * b + 1) * 2 ^ e ≤ v * 2 ^ e := Nat.mul_le_mul_right _ h1
      rw [Nat.add_mul] at this
      generalize 2 ^ e = p at *
      generalize v * p = X at *
      generalize u * b * p = Y at *
      omega

theorem nearest_rhe (f : Format) (s : Bool) {m : Nat} (p last : Int) (hm : m ≠ 0) (hlast : last = max (p + m.log2 - f.fractionBits) f.leastPlace) (hp : p ≤ last) :
    f.nearest s m p = f.word s (min ((last - f.leastPlace).toNat * f.binade + rhe m (2 ^ (last - p).toNat)) f.infRung) := by
  unfold Format.nearest
  rw [if_neg hm]
  simp only [← hlast]
  rw [show (p - last).toNat = 0 by omega, Nat.shiftLeft_zero, cut_rhe]
theorem nearest_up (f : Format) (s : Bool) {m : Nat} (p last : Int) (hm : m ≠ 0) (hlast : last = max (p + m.log2 - f.fractionBits) f.leastPlace) (hp : last ≤ p) :
    f.nearest s m p = f.word s (min ((last - f.leastPlace).toNat * f.binade + m * 2 ^ (p - last).toNat) f.infRung) := by
  unfold Format.nearest
  rw [if_neg hm]
  simp only [← hlast]
  rw [show (last - p).toNat = 0 by omega, cut_none, Nat.shiftLeft_eq]
theorem log2_is {n k : Nat} (h1 : 2 ^ k ≤ n) (h2 : n < 2 ^ (k + 1)) : n.log2 = k := by
  have h0 : n ≠ 0 := by have := Nat.two_pow_pos k; omega
  have a := (Nat.le_log2 h0).2 h1
  have b := (Nat.log2_lt h0).2 h2
  omega
theorem f32_least : FloatKind.f32.format.leastPlace = -149 := by decide
theorem f32_frac : FloatKind.f32.format.fractionBits = 23 := rfl
theorem rhe_le {X B k : Nat} (hB : 0 < B) (h : X ≤ k * B) : rhe X B ≤ k := by
  rcases Nat.lt_or_ge (X / B) k with h1 | h1
  · have hb : ∀ c : Bool, c.toNat ≤ 1 := by decide
    have := hb (decide (B < 2 * (X % B)) || (B == 2 * (X % B) && X / B % 2 == 1))
    unfold rhe; omega
  · have h2 : X / B ≤ k := by rw [Nat.div_le_iff_le_mul hB]; omega
    have h3 : X / B = k := by omega
    have h4 := Nat.div_add_mod X B
    rw [h3, Nat.mul_comm] at h4
    rw [rhe_lt (by omega)]; omega
theorem rhe_ge {X B k : Nat} (hB : 0 < B) (h : k * B ≤ X) : k ≤ rhe X B := by
  have : k ≤ X / B := by rw [Nat.le_div_iff_mul_le hB]; exact h
  exact Nat.le_trans this (by unfold rhe; omega)
/-- What a double reads as that was made of a longer number. -/
theorem dbl_read (s : Bool) {m : Nat} {p : Int} (hL : 53 ≤ m.log2) (h1 : -1000 ≤ p + m.log2) (h2 : p + m.log2 ≤ 1000) :
    ∃ k l, FloatKind.f64.format.read (FloatKind.f64.format.nearest s m p) = .number s k l ∧ l + k.log2 ≤ p + m.log2 + 1 ∧ ∀ g : Format, g.nearest s k l = g.nearest s (rhe m (2 ^ (m.log2 - 52))) (p + m.log2 - 52) := by
  have hm : m ≠ 0 := by rintro rfl; simp at hL
  obtain ⟨L, hLe⟩ : ∃ L, L = m.log2 := ⟨_, rfl⟩
  have e := nearest_rhe FloatKind.f64.format s p (p + L - 52) hm (by rw [f64_least, f64_frac, ← hLe]; omega) (by omega)
  have hlow : 2 ^ L ≤ m := by rw [hLe]; exact Nat.log2_self_le hm
  have hup : m < 2 ^ (L + 1) := by rw [hLe]; exact Nat.lt_log2_self
  rw [← hLe] at hL h1 h2 ⊢
  rw [show (p + L - 52 - p).toNat = L - 52 by omega] at e
  have hP : 0 < 2 ^ (L - 52) := Nat.two_pow_pos _
  have hN1 : 2 ^ 52 ≤ rhe m (2 ^ (L - 52)) := rhe_ge hP (by rw [← Nat.pow_add, show 52 + (L - 52) = L by omega]; exact hlow)
  have hN2 : rhe m (2 ^ (L - 52)) ≤ 2 ^ 53 := rhe_le hP (by rw [← Nat.pow_add, show 53 + (L - 52) = L + 1 by omega]; omega)
  generalize rhe m (2 ^ (L - 52)) = N at *
  rw [f64_least, f64_binade, f64_inf] at e
  have c52 : (2 : Nat) ^ 52 = 4503599627370496 := rfl
  have c53 : (2 : Nat) ^ 53 = 9007199254740992 := rfl
  rcases Nat.lt_or_ge N (2 ^ 53) with hN | hN
  · have hl := log2_is hN1 hN
    have e2 := nearest_up FloatKind.f64.format s (m := N) (p + L - 52) (p + L - 52) (by omega) (by rw [f64_least, f64_frac, hl]; omega) (by omega)
    rw [show (p + L - 52 - (p + L - 52)).toNat = 0 by omega, Nat.pow_zero, Nat.mul_one, f64_least, f64_binade, f64_inf] at e2
    have e3 := nearest_exact FloatKind.f64.format s N (p + L - 52) (p + L - 52) (by omega) (by rw [f64_least, f64_frac, hl]; omega) (by omega) (by rw [f64_least, f64_binade, f64_inf, show (p + L - 52 - (p + L - 52)).toNat = 0 by omega, Nat.pow_zero, Nat.mul_one]; omega)
    rw [show (p + L - 52 - (p + L - 52)).toNat = 0 by omega, Nat.pow_zero, Nat.mul_one] at e3
    refine ⟨N, p + L - 52, by rw [e, ← e2]; exact e3, by rw [hl]; omega, fun g => rfl⟩
  · have hNe : N = 2 ^ 53 := by omega
    have e2 := nearest_up FloatKind.f64.format s (m := 1) (p + L + 1) (p + L - 51) (by omega) (by rw [f64_least, f64_frac, show Nat.log2 1 = 0 by decide]; omega) (by omega)
    rw [show (p + L + 1 - (p + L - 51)).toNat = 52 by omega, f64_least, f64_binade, f64_inf] at e2
    have e3 := nearest_exact FloatKind.f64.format s 1 (p + L + 1) (p + L - 51) (by omega) (by rw [f64_least, f64_frac, show Nat.log2 1 = 0 by decide]; omega) (by omega) (by rw [f64_least, f64_binade, f64_inf, show (p + L + 1 - (p + L - 51)).toNat = 52 by omega]; omega)
    rw [show (p + L + 1 - (p + L - 51)).toNat = 52 by omega] at e3
    have ew : (p + L - 52 - -1074).toNat * 4503599627370496 + N = (p + L - 51 - -1074).toNat * 4503599627370496 + 1 * 2 ^ 52 := by
      rw [hNe, show (p + L - 51 - -1074).toNat = (p + L - 52 - -1074).toNat + 1 by omega]; omega
    refine ⟨1 * 2 ^ 52, p + L - 51, by rw [e, ew, ← e2]; exact e3, by rw [Nat.one_mul, show Nat.log2 (2 ^ 52) = 52 by decide]; omega, fun g => ?_⟩
    have a1 := nearest_scale g s 1 52 (p + L + 1)
    have a2 := nearest_scale g s 1 53 (p + L + 1)
    rw [Nat.one_mul] at a2
    rw [show p + (L : Int) + 1 - ((52 : Nat) : Int) = p + L - 51 by omega] at a1
    rw [show p + (L : Int) + 1 - ((53 : Nat) : Int) = p + L - 52 by omega] at a2
    rw [a1, hNe, a2]
theorem narrow_eq {x : Nat} {s : Bool} {k : Nat} {l : Int} (h : FloatKind.f64.format.read x = .number s k l) (hb : k = 0 ∨ l + k.log2 ≤ 126) : floatToFloatBits .f64 x .f32 = some (FloatKind.f32.format.nearest s k l) := by
  obtain ⟨k', l', hr⟩ := finite_write s k l hb
  unfold floatToFloatBits
  have h' : FloatKind.f64.decode x = .number s k l := h
  rw [if_neg (by decide), h']
  have hr2 : FloatKind.f32.decode (FloatKind.f32.encode (.number s k l)) = .number s k' l' := hr
  simp only [hr2]
  rfl
/-- Rounded twice is rounded once: a number of at most 53 digits. -/
theorem dbl_exact (s : Bool) {m : Nat} {p : Int} (hL : m.log2 ≤ 52) (h1 : -1074 ≤ p) (h2 : m = 0 ∨ p + m.log2 ≤ 126) : floatToFloatBits .f64 (FloatKind.f64.format.nearest s m p) .f32 = some (FloatKind.f32.format.nearest s m p) := by
  by_cases hm : m = 0
  · subst hm
    rw [narrow_eq (nearest_zero _ _ _) (.inl rfl)]
    unfold Format.nearest
    rw [if_pos rfl, if_pos rfl]
  · have h2 : p + m.log2 ≤ 126 := h2.resolve_left hm
    obtain ⟨last, hlast⟩ : ∃ last, last = max (p + (m.log2 : Int) - 52) (-1074) := ⟨_, rfl⟩
    have hK : m * 2 ^ (p - last).toNat < 2 ^ 53 := by
      have g1 : m < 2 ^ (m.log2 + 1) := Nat.lt_log2_self
      have g2 : m * 2 ^ (p - last).toNat < 2 ^ (m.log2 + 1) * 2 ^ (p - last).toNat := Nat.mul_lt_mul_of_pos_right g1 (Nat.two_pow_pos _)
      rw [← Nat.pow_add] at g2
      exact Nat.lt_of_lt_of_le g2 (Nat.pow_le_pow_right (by omega) (by omega))
    have e := nearest_exact FloatKind.f64.format s m p last hm (by rw [f64_least, f64_frac, hlast]; rfl) (by omega) (by
      rw [f64_binade, f64_inf, f64_least]
      generalize m * 2 ^ (p - last).toNat = K at *
      have : (last - -1074).toNat ≤ 1300 := by omega
      have := Nat.mul_le_mul_right 4503599627370496 this
      omega)
    have hsc := nearest_scale FloatKind.f32.format s m (p - last).toNat p
    rw [show p - ((p - last).toNat : Int) = last by omega] at hsc
    rw [narrow_eq e (.inr (by rw [log2_mul_pow _ hm]; omega)), hsc]
/-- Rounded twice is rounded once: a longer number. -/
theorem dbl_long (s : Bool) {m : Nat} {p : Int} (hL : 53 ≤ m.log2) (h1 : -126 ≤ p + m.log2) (h2 : p + m.log2 ≤ 125) (h3 : rhe (rhe m (2 ^ (m.log2 - 52))) (2 * 268435456) = rhe m (2 ^ (m.log2 - 52) * (2 * 268435456))) :
    floatToFloatBits .f64 (FloatKind.f64.format.nearest s m p) .f32 = some (FloatKind.f32.format.nearest s m p) := by
  obtain ⟨k, l, hr, hk, hg⟩ := dbl_read s (p := p) hL (by omega) (by omega)
  rw [narrow_eq hr (.inr (by omega)), hg]
  have hm : m ≠ 0 := by rintro rfl; simp at hL
  obtain ⟨L, hLe⟩ : ∃ L, L = m.log2 := ⟨_, rfl⟩
  have e := nearest_rhe FloatKind.f32.format s p (p + L - 23) hm (by rw [f32_least, f32_frac, ← hLe]; omega) (by omega)
  have hlow : 2 ^ L ≤ m := by rw [hLe]; exact Nat.log2_self_le hm
  have hup : m < 2 ^ (L + 1) := by rw [hLe]; exact Nat.lt_log2_self
  rw [← hLe] at hL h1 h2 h3 ⊢
  rw [show (p + L - 23 - p).toNat = L - 23 by omega] at e
  have ep : (2 : Nat) ^ (L - 23) = 2 ^ (L - 52) * (2 * 268435456) := by rw [show (2 * 268435456 : Nat) = 2 ^ 29 by rfl, ← Nat.pow_add, show L - 52 + 29 = L - 23 by omega]
  rw [ep, ← h3] at e
  have hP : 0 < 2 ^ (L - 52) := Nat.two_pow_pos _
  have hN1 : 2 ^ 52 ≤ rhe m (2 ^ (L - 52)) := rhe_ge hP (by rw [← Nat.pow_add, show 52 + (L - 52) = L by omega]; exact hlow)
  have hN2 : rhe m (2 ^ (L - 52)) ≤ 2 ^ 53 := rhe_le hP (by rw [← Nat.pow_add, show 53 + (L - 52) = L + 1 by omega]; omega)
  generalize rhe m (2 ^ (L - 52)) = N at *
  have c52 : (2 : Nat) ^ 52 = 4503599627370496 := rfl
  have c53 : (2 : Nat) ^ 53 = 9007199254740992 := rfl
  rw [e]
  congr 1
  rcases Nat.lt_or_ge N (2 ^ 53) with hN | hN
  · have hl := log2_is hN1 hN
    have e2 := nearest_rhe FloatKind.f32.format s (m := N) (p + L - 52) (p + L - 23) (by omega) (by rw [f32_least, f32_frac, hl]; omega) (by omega)
    rw [show (p + L - 23 - (p + L - 52)).toNat = 29 by omega] at e2
    exact e2
  · have hNe : N = 2 ^ 53 := by omega
    have a2 := nearest_scale FloatKind.f32.format s 1 53 (p + L + 1)
    rw [Nat.one_mul, show p + (L : Int) + 1 - ((53 : Nat) : Int) = p + L - 52 by omega] at a2
    have e2 := nearest_up FloatKind.f32.format s (m := 1) (p + L + 1) (p + L - 22) (by omega) (by rw [f32_least, f32_frac, show Nat.log2 1 = 0 by decide]; omega) (by omega)
    have er : rhe (2 ^ 53) (2 * 268435456) = 16777216 := by decide +kernel
    have ew : (p + L - 23 - -149).toNat * 8388608 + rhe (2 ^ 53) (2 * 268435456) = (p + L - 22 - -149).toNat * 8388608 + 1 * 2 ^ (p + L + 1 - (p + L - 22)).toNat := by
      rw [er, show (p + L + 1 - (p + L - 22)).toNat = 23 by omega, show (p + L - 22 - -149).toNat = (p + L - 23 - -149).toNat + 1 by omega]
      omega
    rw [hNe, a2, e2, f32_least, f32_binade, f32_inf, ew]
end

section
open Go.RowKit Ieee

def ltF (a b : Nat) : Bool := FloatKind.f32.format.order a b == some .lt
def gtF (a b : Nat) : Bool := FloatKind.f32.format.order a b == some .gt
def oneB : Nat := 1065353216
def twoB : Nat := 1073741824
def threeB : Nat := 1077936128
def lim01 (t : Nat) : Nat := if ltF t 0 then 0 else if gtF t oneB then oneB else canon t
def smB (t : Nat) : Nat := fop .mul (fop .mul (lim01 t) (lim01 t)) (fop .sub threeB (fop .mul twoB (lim01 t)))
def fadeB (d soft : Nat) : Nat := if ltF d soft then fop .sub oneB (smB (fop .quo d soft)) else 0
def edgeB (d soft : Nat) : Nat := if gtF d 0 then fadeB d soft else oneB
def boxD (dx dy W H : Nat) : Nat := if gtF (fop .sub (absF dy) H) (fop .sub (absF dx) W) then fop .sub (absF dy) H else fop .sub (absF dx) W
def ellQ (dx dy W H : Nat) : Nat := rootF (fop .add (fop .mul (fop .quo dx W) (fop .quo dx W)) (fop .mul (fop .quo dy H) (fop .quo dy H)))
def ellV (q W H S : Nat) : Nat := if gtF q oneB then edgeB (fop .mul (fop .sub q oneB) (if ltF H W then H else W)) S else oneB
/-- kind 1: a box; 2: an ellipse; else a polygon (odd: the places within). -/
def covV (kind : Int) (dx dy W H S : Nat) (odd : Bool) : Nat :=
  if kind = 1 then edgeB (boxD dx dy W H) S else if kind = 2 then ellV (ellQ dx dy W H) W H S else if odd then oneB else 0
def covB (kind : Int) (dx dy W H S : Nat) (odd out : Bool) : Nat := canon (if out then fop .sub oneB (covV kind dx dy W H S odd) else covV kind dx dy W H S odd)

theorem rd_one : rd oneB = .number false 8388608 (-23) := by decide
theorem rd_two : rd twoB = .number false 8388608 (-22) := by decide
theorem rd_three : rd threeB = .number false 12582912 (-22) := by decide
theorem rd_zero : rd 0 = .number false 0 (-149) := by decide
theorem write_nn {d : Datum} (h : d.isNaN = false) : isNaN (FloatKind.f32.format.write d) = false := by
  rw [isNaN_iff]
  cases d with
  | nan => cases h
  | infinity s =>
    show (FloatKind.f32.format.read (FloatKind.f32.format.word s FloatKind.f32.format.infRung)).isNaN = false
    rw [read_inf]; rfl
  | number s m p =>
    show (FloatKind.f32.format.read (FloatKind.f32.format.nearest s m p)).isNaN = false
    rcases read_nearest FloatKind.f32.format s m p with ⟨k, l, h, _⟩ | h <;> rw [h] <;> rfl
theorem fop_is {op : BinOp} {x y : Nat} {d : Datum} (h : floatBits op .f32 x y = some (FloatKind.f32.format.write d)) (hd : d.isNaN = false) : fop op x y = FloatKind.f32.format.write d := by
  unfold fop
  rw [h, Option.map_some, Option.getD_some, canon_of_num (write_nn hd)]
theorem fop_nn {op : BinOp} {x y : Nat} {d : Datum} (h : floatBits op .f32 x y = some (FloatKind.f32.format.write d)) (hd : d.isNaN = false) : isNaN (fop op x y) = false := by
  rw [fop_is h hd]; exact write_nn hd
theorem bits_sub (x y : Nat) : floatBits .sub .f32 x y = ((rd x).sum (rd y).opposite).map FloatKind.f32.format.write := rfl
theorem bits_add (x y : Nat) : floatBits .add .f32 x y = ((rd x).sum (rd y)).map FloatKind.f32.format.write := rfl
theorem bits_mul (x y : Nat) : floatBits .mul .f32 x y = ((rd x).product (rd y)).map FloatKind.f32.format.write := rfl
theorem bits_quo (x y : Nat) : floatBits .quo .f32 x y = ((rd x).quotient 25 (rd y)).map FloatKind.f32.format.write := rfl
theorem cases_nn {b : Nat} (h : isNaN b = false) : (∃ s m i, rd b = .number s m i) ∨ (∃ s, rd b = .infinity s) := by
  rw [isNaN_iff] at h
  cases hb : rd b with
  | number s m i => exact .inl ⟨s, m, i, rfl⟩
  | infinity s => exact .inr ⟨s, rfl⟩
  | nan s t => rw [hb] at h; cases h
theorem sub_nn_left {x y : Nat} (hx : ∃ s m i, rd x = .number s m i) (hy : isNaN y = false) : isNaN (fop .sub x y) = false := by
  obtain ⟨s, m, i, hx⟩ := hx
  rcases cases_nn hy with ⟨t, n, j, hy⟩ | ⟨t, hy⟩
  · exact fop_nn (by rw [bits_sub, hx, hy]; rfl) rfl
  · exact fop_nn (d := .infinity (!t)) (by rw [bits_sub, hx, hy]; rfl) rfl
theorem sub_nn_right {x y : Nat} (hx : isNaN x = false) (hy : ∃ s m i, rd y = .number s m i) : isNaN (fop .sub x y) = false := by
  obtain ⟨t, n, j, hy⟩ := hy
  rcases cases_nn hx with ⟨s, m, i, hx⟩ | ⟨s, hx⟩
  · exact fop_nn (by rw [bits_sub, hx, hy]; rfl) rfl
  · exact fop_nn (d := .infinity s) (by rw [bits_sub, hx, hy]; rfl) rfl
theorem mul_num {x y : Nat} (hx : ∃ s m i, rd x = .number s m i) (hy : ∃ s m i, rd y = .number s m i) : isNaN (fop .mul x y) = false := by
  obtain ⟨s, m, i, hx⟩ := hx
  obtain ⟨t, n, j, hy⟩ := hy
  exact fop_nn (by rw [bits_mul, hx, hy]; rfl) rfl

/-- Within 0 and 1. -/
theorem lim_num {t : Nat} (h : isNaN t = false) : ∃ s m i, rd (lim01 t) = .number s m i ∧ (m = 0 ∨ i + m.log2 ≤ 0) := by
  unfold lim01
  cases h1 : ltF t 0
  · cases h2 : gtF t oneB
    · simp only [Bool.false_eq_true, if_false]
      rw [canon_of_num h]
      rcases cases_nn h with ⟨s, m, i, hr⟩ | ⟨s, hr⟩
      · refine ⟨s, m, i, hr, ?_⟩
        have g1 : ((rd t).order (rd 0) == some .lt) = false := h1
        have g2 : ((rd t).order (rd oneB) == some .gt) = false := h2
        rw [hr, rd_zero] at g1
        rw [hr, rd_one] at g2
        simp only [Datum.order] at g1 g2
        by_cases hm : m = 0
        · exact .inl hm
        right
        have c1 : compare (signed s m (i - min i (-149)).toNat) (signed false 0 (-149 - min i (-149)).toNat) ≠ .lt := by intro e; rw [e] at g1; simp at g1
        have c2 : compare (signed s m (i - min i (-23)).toNat) (signed false 8388608 (-23 - min i (-23)).toNat) ≠ .gt := by intro e; rw [e] at g2; simp at g2
        have c1 := cmp_ge c1
        have z : signed false 0 (-149 - min i (-149)).toNat = 0 := by simp [signed]
        rw [z, signed_pow] at c1
        have hs : s = false := by
          cases s
          · rfl
          · exfalso
            simp only [if_true] at c1
            have : 0 < (m : Int) * 2 ^ (i - min i (-149)).toNat := Int.mul_pos (by omega) (pow_pos' _)
            rw [Int.neg_mul] at c1
            omega
        subst hs
        have c3 : signed false m (i - min i (-23)).toNat ≤ signed false 8388608 (-23 - min i (-23)).toNat := by
          rcases Int.lt_or_le (signed false 8388608 (-23 - min i (-23)).toNat) (signed false m (i - min i (-23)).toNat) with h | h
          · exact absurd (by rw [Int.compare_eq_ite_lt, if_neg (by omega), if_pos h]) c2
          · exact h
        rw [signed_pow, signed_pow] at c3
        simp only [Bool.false_eq_true, if_false] at c3
        have c4 : m * 2 ^ (i - min i (-23)).toNat ≤ 8388608 * 2 ^ (-23 - min i (-23)).toNat := by exact_mod_cast c3
        have h23 : (8388608 : Nat) = 2 ^ 23 := by decide
        rw [h23, ← Nat.pow_add] at c4
        have c5 := log2_of_le (Nat.mul_ne_zero hm (Nat.ne_of_gt (Nat.two_pow_pos _))) c4
        rw [log2_mul_pow _ hm] at c5
        omega
      · exfalso
        have g1 : ((rd t).order (rd 0) == some .lt) = false := h1
        have g2 : ((rd t).order (rd oneB) == some .gt) = false := h2
        rw [hr, rd_zero] at g1
        rw [hr, rd_one] at g2
        cases s
        · revert g2; decide
        · revert g1; decide
    · simp only [Bool.false_eq_true, if_false, if_true]
      exact ⟨_, _, _, rd_one, .inr (by decide)⟩
  · simp only [if_true]
    exact ⟨_, _, _, rd_zero, .inl rfl⟩
theorem log2_mul_le {a b : Nat} (ha : a ≠ 0) (hb : b ≠ 0) : (a * b).log2 ≤ a.log2 + b.log2 + 1 := by
  refine log2_le ?_
  have h1 : a < 2 ^ (a.log2 + 1) := Nat.lt_log2_self
  have h2 : b < 2 ^ (b.log2 + 1) := Nat.lt_log2_self
  have := Nat.mul_lt_mul_of_lt_of_le h1 (Nat.le_of_lt h2) (by omega)
  rw [← Nat.pow_add] at this
  rw [show a.log2 + b.log2 + 1 + 1 = a.log2 + 1 + (b.log2 + 1) by omega]
  exact this
theorem f32_rungs : FloatKind.f32.format.binade ≤ FloatKind.f32.format.infRung := by rw [f32_binade, f32_inf]; decide
theorem sm_parts {t : Nat} (h : isNaN t = false) : isNaN (fop .mul (lim01 t) (lim01 t)) = false ∧ isNaN (fop .mul twoB (lim01 t)) = false ∧ isNaN (fop .sub threeB (fop .mul twoB (lim01 t))) = false ∧ isNaN (smB t) = false := by
  obtain ⟨s, m, i, hr, hb⟩ := lim_num h
  unfold smB
  generalize lim01 t = v at hr
  -- v * v
  have e1 : ∃ s' k l, rd (fop .mul v v) = .number s' k l := by
    have he : fop .mul v v = FloatKind.f32.format.nearest (s ^^ s) (m * m) (i + i) := fop_is (d := .number (s ^^ s) (m * m) (i + i)) (by rw [bits_mul, hr]; rfl) rfl
    obtain ⟨k, l, hk⟩ := finite_write (s ^^ s) (m * m) (i + i) (by
      rcases hb with h0 | h0
      · left; rw [h0]
      · by_cases hm : m = 0
        · left; rw [hm]
        · right; have := log2_mul_le hm hm; omega)
    exact ⟨_, k, l, by rw [he]; exact hk⟩
  -- 2 * v
  have e2 : ∃ s' k l, rd (fop .mul twoB v) = .number s' k l ∧ (k = 0 ∨ l + k.log2 ≤ 2) := by
    have he : fop .mul twoB v = FloatKind.f32.format.nearest (false ^^ s) (8388608 * m) (-22 + i) := fop_is (d := .number (false ^^ s) (8388608 * m) (-22 + i)) (by rw [bits_mul, rd_two, hr]; rfl) rfl
    by_cases hm : m = 0
    · refine ⟨false ^^ s, 0, -149, ?_, .inl rfl⟩
      rw [he, hm]
      exact nearest_zero FloatKind.f32.format (false ^^ s) (-22 + i)
    · have hi : i + m.log2 ≤ 0 := by rcases hb with h0 | h0; · exact absurd h0 hm
                                     · exact h0
      have hl : (8388608 * m).log2 = m.log2 + 23 := by
        have := log2_mul_pow 23 hm
        rw [Nat.mul_comm 8388608 m, show (8388608 : Nat) = 2 ^ 23 by decide]; exact this
      obtain ⟨k, l, hk⟩ := finite_write (false ^^ s) (8388608 * m) (-22 + i) (.inr (by omega))
      refine ⟨false ^^ s, k, l, by rw [he]; exact hk, ?_⟩
      rcases write_bound FloatKind.f32.format f32_rungs (show 8388608 * m ≠ 0 by omega) hk with h1 | h1
      · exact .inl h1
      · right; omega
  obtain ⟨s2, k2, l2, hr2, hb2⟩ := e2
  generalize fop .mul twoB v = w at hr2
  -- 3 - w
  have e3 : ∃ s' k l, rd (fop .sub threeB w) = .number s' k l := by
    obtain ⟨base, hbase⟩ : ∃ base, base = min (-22 : Int) l2 := ⟨_, rfl⟩
    obtain ⟨T, hT⟩ : ∃ T, T = signed false 12582912 (-22 - base).toNat + signed (!s2) k2 (l2 - base).toNat := ⟨_, rfl⟩
    have he : fop .sub threeB w = FloatKind.f32.format.nearest (if T = 0 then false && !s2 else decide (T < 0)) T.natAbs base := by
      refine fop_is (d := .number (if T = 0 then false && !s2 else decide (T < 0)) T.natAbs base) ?_ rfl
      rw [bits_sub, rd_three, hr2, hT, hbase]; rfl
    obtain ⟨k, l, hk⟩ := finite_write (if T = 0 then false && !s2 else decide (T < 0)) T.natAbs base (by
      by_cases hT0 : T.natAbs = 0
      · exact .inl hT0
      right
      have a1 : (12582912 : Nat) * 2 ^ (-22 - base).toNat < 2 ^ (2 - base).toNat := by
        have : (2 : Nat) ^ (2 - base).toNat = 2 ^ 24 * 2 ^ (-22 - base).toNat := by rw [← Nat.pow_add]; congr 1; omega
        rw [this]
        exact Nat.mul_lt_mul_of_pos_right (by decide) (Nat.two_pow_pos _)
      have a2 : k2 * 2 ^ (l2 - base).toNat < 2 ^ (3 - base).toNat := by
        rcases hb2 with h0 | h0
        · rw [h0, Nat.zero_mul]; exact Nat.two_pow_pos _
        · have b1 : k2 < 2 ^ (k2.log2 + 1) := Nat.lt_log2_self
          have b2 := Nat.mul_lt_mul_of_pos_right b1 (Nat.two_pow_pos (l2 - base).toNat)
          rw [← Nat.pow_add] at b2
          exact Nat.lt_of_lt_of_le b2 (Nat.pow_le_pow_right (by omega) (by omega))
      have a3 : T.natAbs ≤ 12582912 * 2 ^ (-22 - base).toNat + k2 * 2 ^ (l2 - base).toNat := by
        rw [hT]
        rcases signed_abs false 12582912 (-22 - base).toNat with q1 | q1 <;> rcases signed_abs (!s2) k2 (l2 - base).toNat with q2 | q2 <;> rw [q1, q2] <;> omega
      have a4 : (2 : Nat) ^ (3 - base).toNat = 2 * 2 ^ (2 - base).toNat := by rw [show (3 - base).toNat = (2 - base).toNat + 1 by omega, Nat.pow_succ]; omega
      have a5 : (2 : Nat) ^ ((3 - base).toNat + 1) = 2 * 2 ^ (3 - base).toNat := by rw [Nat.pow_succ]; omega
      have a6 : T.natAbs.log2 ≤ (3 - base).toNat := log2_le (by omega)
      omega)
    exact ⟨_, k, l, by rw [he]; exact hk⟩
  have nn : ∀ {b : Nat}, (∃ s' k l, rd b = .number s' k l) → isNaN b = false := fun ⟨_, _, _, h⟩ => by rw [isNaN_iff, h]; rfl
  exact ⟨nn e1, nn ⟨_, _, _, hr2⟩, nn e3, mul_num e1 e3⟩
theorem sm_nn {t : Nat} (h : isNaN t = false) : isNaN (smB t) = false := (sm_parts h).2.2.2
theorem quo_some (s t : Bool) (m : Nat) {n : Nat} (i j : Int) (hn : n ≠ 0) : ∃ D, ((Datum.number s m i).quotient 25 (.number t n j)).map FloatKind.f32.format.write = some (FloatKind.f32.format.write D) ∧ D.isNaN = false := by
  simp only [Datum.quotient, if_neg hn, Option.map_some]
  exact ⟨_, rfl, rfl⟩
theorem fade_quo {d soft : Nat} (hd : isNaN d = false) (hp : gtF d 0 = true) (hs : ∃ s m i, rd soft = .number s m i) (h1 : ltF d soft = true) : isNaN (fop .quo d soft) = false := by
  obtain ⟨t, n, j, hs⟩ := hs
  have g1 : ((rd d).order (rd soft) == some .lt) = true := h1
  have g2 : ((rd d).order (rd 0) == some .gt) = true := hp
  rcases cases_nn hd with ⟨s, m, i, hr⟩ | ⟨s, hr⟩
  · have hn : n ≠ 0 := by
      intro hn
      rw [hr, hs, hn] at g1
      rw [hr, rd_zero] at g2
      simp only [Datum.order, beq_iff_eq, Option.some.injEq] at g1 g2
      have c1 := cmp_lt g1
      have c2 : signed false 0 (-149 - min i (-149)).toNat < signed s m (i - min i (-149)).toNat := by
        rw [Int.compare_eq_ite_lt] at g2
        split at g2
        · cases g2
        · split at g2
          · assumption
          · cases g2
      rw [signed_pow, signed_pow] at c1 c2
      have z1 : (if t = true then -((0 : Nat) : Int) else ((0 : Nat) : Int)) = 0 := by cases t <;> rfl
      rw [z1, Int.zero_mul] at c1
      simp only [Bool.false_eq_true, if_false] at c2
      have z2 : ((0 : Nat) : Int) * 2 ^ (-149 - min i (-149)).toNat = 0 := by simp
      rw [z2] at c2
      generalize (if s = true then -(m : Int) else (m : Int)) = z at c1 c2
      have p1 := pow_pos' (i - min i j).toNat
      have p2 := pow_pos' (i - min i (-149)).toNat
      by_cases hz : 0 ≤ z
      · have := Int.mul_nonneg hz (Int.le_of_lt p1); omega
      · have := Int.mul_nonpos_of_nonpos_of_nonneg (show z ≤ 0 by omega) (Int.le_of_lt p2); omega
    have hq : isNaN (fop .quo d soft) = false := by
      obtain ⟨D, hD1, hD2⟩ : ∃ D, floatBits .quo .f32 d soft = some (FloatKind.f32.format.write D) ∧ D.isNaN = false := by
        rw [bits_quo, hr, hs]
        exact quo_some _ _ _ _ _ hn
      exact fop_nn hD1 hD2
    exact hq
  · exfalso
    rw [hr, hs] at g1
    rw [hr, rd_zero] at g2
    cases s
    · revert g1; simp [Datum.order]
    · revert g2; simp [Datum.order]
theorem fade_nn {d soft : Nat} (hd : isNaN d = false) (hp : gtF d 0 = true) (hs : ∃ s m i, rd soft = .number s m i) : isNaN (fadeB d soft) = false := by
  unfold fadeB
  cases h1 : ltF d soft
  · rw [if_neg (by simp)]; decide
  · rw [if_pos rfl]
    exact sub_nn_left ⟨_, _, _, rd_one⟩ (sm_nn (fade_quo hd hp hs h1))
theorem edge_nn {d soft : Nat} (hd : isNaN d = false) (hs : ∃ s m i, rd soft = .number s m i) : isNaN (edgeB d soft) = false := by
  unfold edgeB
  cases h : gtF d 0
  · rw [if_neg (by simp)]; decide
  · rw [if_pos rfl]; exact fade_nn hd h hs
theorem box_nn {dx dy W H : Nat} (hx : ∃ s m i, rd (absF dx) = .number s m i) (hy : ∃ s m i, rd (absF dy) = .number s m i) (hW : ∃ s m i, rd W = .number s m i) (hH : ∃ s m i, rd H = .number s m i) : isNaN (boxD dx dy W H) = false := by
  have n1 : ∀ {a : Nat}, (∃ s m i, rd a = .number s m i) → isNaN a = false := fun ⟨_, _, _, h⟩ => by rw [isNaN_iff, h]; rfl
  unfold boxD
  split
  · exact sub_nn_right (n1 hy) hH
  · exact sub_nn_right (n1 hx) hW
/-- A number that is not 0. -/
def nzF (b : Nat) : Prop := ∃ s m i, rd b = .number s m i ∧ m ≠ 0
theorem quo_nn {x y : Nat} (hx : ∃ s m i, rd x = .number s m i) (hy : nzF y) : isNaN (fop .quo x y) = false := by
  obtain ⟨s, m, i, hr⟩ := hx
  obtain ⟨t, n, j, hs, hn⟩ := hy
  obtain ⟨D, hD1, hD2⟩ : ∃ D, floatBits .quo .f32 x y = some (FloatKind.f32.format.write D) ∧ D.isNaN = false := by
    rw [bits_quo, hr, hs]
    exact quo_some _ _ _ _ _ hn
  exact fop_nn hD1 hD2
/-- Not below nought, and no NaN. -/
def pnF (b : Nat) : Prop := (∃ m i, rd b = .number false m i) ∨ rd b = .infinity false
theorem pn_write {d : Datum} (h : d.isNaN = false) (hd : PN d) : pnF (FloatKind.f32.format.write d) := by
  have h1 := PN_write hd
  have h2 := write_nn h
  rcases cases_nn h2 with ⟨s, m, i, hr⟩ | ⟨s, hr⟩
  · rw [hr] at h1
    rcases h1 with h1 | ⟨_, _, h1⟩
    · have : s = false := h1
      subst this
      exact .inl ⟨m, i, hr⟩
    · rw [h1] at h; cases h
  · rw [hr] at h1
    rcases h1 with h1 | ⟨_, _, h1⟩
    · have : s = false := h1
      subst this
      exact .inr hr
    · rw [h1] at h; cases h
theorem sq_pn {x : Nat} (hx : isNaN x = false) : pnF (fop .mul x x) := by
  rcases cases_nn hx with ⟨s, m, i, hr⟩ | ⟨s, hr⟩
  · have he : fop .mul x x = FloatKind.f32.format.write (.number (s ^^ s) (m * m) (i + i)) := fop_is (by rw [bits_mul, hr]; rfl) rfl
    rw [he]
    exact pn_write rfl (show (s ^^ s) = false by cases s <;> rfl)
  · have he : fop .mul x x = FloatKind.f32.format.write (.infinity (s ^^ s)) := fop_is (by rw [bits_mul, hr]; rfl) rfl
    rw [he]
    exact pn_write rfl (show (s ^^ s) = false by cases s <;> rfl)
theorem sum_pn {x y : Nat} (hx : pnF x) (hy : pnF y) : pnF (fop .add x y) := by
  rcases hx with ⟨m, i, hr⟩ | hr <;> rcases hy with ⟨n, j, hs⟩ | hs
  · obtain ⟨T, hT⟩ : ∃ T, T = signed false m (i - min i j).toNat + signed false n (j - min i j).toNat := ⟨_, rfl⟩
    have h0 : 0 ≤ T := by
      rw [hT, signed_pow, signed_pow]
      simp only [Bool.false_eq_true, if_false]
      have a := Int.mul_nonneg (show (0 : Int) ≤ m by omega) (Int.le_of_lt (pow_pos' (i - min i j).toNat))
      have b := Int.mul_nonneg (show (0 : Int) ≤ n by omega) (Int.le_of_lt (pow_pos' (j - min i j).toNat))
      omega
    have he : fop .add x y = FloatKind.f32.format.write (.number (if T = 0 then false && false else decide (T < 0)) T.natAbs (min i j)) := fop_is (by rw [bits_add, hr, hs, hT]; rfl) rfl
    rw [he]
    refine pn_write rfl ?_
    show (if T = 0 then false && false else decide (T < 0)) = false
    split
    · rfl
    · exact decide_eq_false (by omega)
  all_goals
    have he : fop .add x y = FloatKind.f32.format.write (.infinity false) := fop_is (by rw [bits_add, hr, hs]; rfl) rfl
    rw [he]
    exact pn_write rfl rfl
theorem ellQ_nn {dx dy W H : Nat} (hx : ∃ s m i, rd dx = .number s m i) (hy : ∃ s m i, rd dy = .number s m i) (hW : nzF W) (hH : nzF H) : pnF (fop .add (fop .mul (fop .quo dx W) (fop .quo dx W)) (fop .mul (fop .quo dy H) (fop .quo dy H))) ∧ isNaN (ellQ dx dy W H) = false := by
  have h := sum_pn (sq_pn (quo_nn hx hW)) (sq_pn (quo_nn hy hH))
  obtain ⟨_, _, _, _, _, _, _, h2⟩ := root_ok h
  exact ⟨h, h2⟩
theorem ellV_nn {q W H S : Nat} (hq : isNaN q = false) (hW : nzF W) (hH : nzF H) (hS : ∃ s m i, rd S = .number s m i) : isNaN (ellV q W H S) = false := by
  unfold ellV
  split
  · have h1 := sub_nn_right hq ⟨_, _, _, rd_one⟩
    have hl : nzF (if ltF H W then H else W) := by split <;> assumption
    refine edge_nn ?_ hS
    generalize (if ltF H W then H else W) = l at hl
    obtain ⟨t, n, j, hs, hn⟩ := hl
    rcases cases_nn h1 with ⟨s, m, i, hr⟩ | ⟨s, hr⟩
    · exact mul_num ⟨_, _, _, hr⟩ ⟨_, _, _, hs⟩
    · refine fop_nn (d := .infinity (s ^^ t)) ?_ rfl
      rw [bits_mul, hr, hs]
      simp only [Datum.product, if_neg hn, Option.map_some]
  · decide
theorem cov_nn {kind : Int} {dx dy W H S : Nat} {odd out : Bool} (hx : ∃ s m i, rd dx = .number s m i) (hy : ∃ s m i, rd dy = .number s m i) (hax : ∃ s m i, rd (absF dx) = .number s m i) (hay : ∃ s m i, rd (absF dy) = .number s m i)
    (hW : ∃ s m i, rd W = .number s m i) (hH : ∃ s m i, rd H = .number s m i) (hS : ∃ s m i, rd S = .number s m i) (hk : kind = 2 → nzF W ∧ nzF H) : isNaN (covB kind dx dy W H S odd out) = false := by
  have hv : isNaN (covV kind dx dy W H S odd) = false := by
    unfold covV
    split
    · exact edge_nn (box_nn hax hay hW hH) hS
    · split
      · rename_i h2
        obtain ⟨a, b⟩ := hk h2
        exact ellV_nn (ellQ_nn hx hy a b).2 a b hS
      · cases odd <;> decide
  unfold covB
  cases out
  · rw [if_neg (by simp), canon_of_num hv]; exact hv
  · rw [if_pos rfl]
    have := sub_nn_left ⟨_, _, _, rd_one⟩ hv
    rw [canon_of_num this]; exact this
end

section
open Go.RowKit Ieee

theorem sum_wide (s t : Bool) (m n : Nat) {i j l1 l2 : Int} (h1 : l1 ≤ i) (h2 : l2 ≤ j) : ∃ (sg : Bool) (T c : Nat), (Datum.number s m i).sum (.number t n j) = some (.number sg T (min i j)) ∧
    (Datum.number s (m * 2 ^ (i - l1).toNat) l1).sum (.number t (n * 2 ^ (j - l2).toNat) l2) = some (.number sg (T * 2 ^ c) (min i j - (c : Int))) ∧ T = (signed s m (i - min i j).toNat + signed t n (j - min i j).toNat).natAbs := by
  obtain ⟨c, hc⟩ : ∃ c, c = (min i j - min l1 l2).toNat := ⟨_, rfl⟩
  have e1 : signed s (m * 2 ^ (i - l1).toNat) (l1 - min l1 l2).toNat = signed s m (i - min i j).toNat * 2 ^ c := by
    rw [signed_pow, signed_pow, Int.mul_assoc, ← Int.pow_add]
    push_cast
    rw [show (i - min i j).toNat + c = (i - l1).toNat + (l1 - min l1 l2).toNat by omega, Int.pow_add, ← Int.mul_assoc]
    congr 1
    split
    · rw [Int.neg_mul]
    · rfl
  have e2 : signed t (n * 2 ^ (j - l2).toNat) (l2 - min l1 l2).toNat = signed t n (j - min i j).toNat * 2 ^ c := by
    rw [signed_pow, signed_pow, Int.mul_assoc, ← Int.pow_add]
    push_cast
    rw [show (j - min i j).toNat + c = (j - l2).toNat + (l2 - min l1 l2).toNat by omega, Int.pow_add, ← Int.mul_assoc]
    congr 1
    split
    · rw [Int.neg_mul]
    · rfl
  refine ⟨_, _, c, rfl, ?_, rfl⟩
  simp only [Datum.sum]
  rw [e1, e2, ← Int.add_mul]
  generalize signed s m (i - min i j).toNat + signed t n (j - min i j).toNat = total
  have hp : (0 : Int) < 2 ^ c := pow_pos' c
  have a1 : (total * 2 ^ c).natAbs = total.natAbs * 2 ^ c := by rw [Int.natAbs_mul, Int.natAbs_pow]; rfl
  have a2 : (total * 2 ^ c = 0) = (total = 0) := by
    apply propext
    constructor
    · intro h; rcases Int.mul_eq_zero.1 h with h | h; · exact h
      · omega
    · rintro rfl; exact Int.zero_mul _
  have a3 : (total * 2 ^ c < 0) = (total < 0) := by
    apply propext
    constructor
    · intro h
      rcases Int.lt_or_le total 0 with h0 | h0
      · exact h0
      · have := Int.mul_nonneg h0 (Int.le_of_lt hp); omega
    · intro h; exact Int.mul_neg_of_neg_of_pos h hp
  rw [a1, show min l1 l2 = min i j - (c : Int) by omega]
  simp only [a2, a3]

/-- The magnitude of a sum. -/
theorem sum_parts (s t : Bool) (m n : Nat) (i j : Int) (hm : m < 16777216) (hn : n < 16777216) :
    ∃ A b D, A < 16777216 ∧ b < 16777216 ∧ ((signed s m (i - min i j).toNat + signed t n (j - min i j).toNat).natAbs = A * 2 ^ D + b ∨ (signed s m (i - min i j).toNat + signed t n (j - min i j).toNat).natAbs + b = A * 2 ^ D ∨ (signed s m (i - min i j).toNat + signed t n (j - min i j).toNat).natAbs ≤ b) := by
  have e : ∀ (s : Bool) (m k : Nat), signed s m k = if s then -((m * 2 ^ k : Nat) : Int) else ((m * 2 ^ k : Nat) : Int) := by
    intro s m k
    unfold signed
    rw [Nat.shiftLeft_eq]
  rcases Int.lt_or_le i j with h | h
  · refine ⟨n, m, (j - min i j).toNat, hn, hm, ?_⟩
    rw [e, e, show (i - min i j).toNat = 0 by omega, Nat.pow_zero, Nat.mul_one]
    generalize n * 2 ^ (j - min i j).toNat = M
    cases s <;> cases t <;> simp only [Bool.false_eq_true, if_false, if_true] <;> omega
  · refine ⟨m, n, (i - min i j).toNat, hm, hn, ?_⟩
    rw [e, e, show (j - min i j).toNat = 0 by omega, Nat.pow_zero, Nat.mul_one]
    generalize m * 2 ^ (i - min i j).toNat = M
    cases s <;> cases t <;> simp only [Bool.false_eq_true, if_false, if_true] <;> omega
theorem log2_small {b : Nat} (h : b < 16777216) : b.log2 ≤ 23 := log2_le h
theorem log2_mono {a b : Nat} (h : a ≤ b) (h0 : b ≠ 0) : a.log2 ≤ b.log2 := by
  by_cases ha : a = 0
  · subst ha; simp
  · exact (Nat.le_log2 h0).2 (Nat.le_trans (Nat.log2_self_le ha) h)
/-- A single that is not too great. -/
def SmB (k : Int) (b : Nat) : Prop := ∃ s m i, rd b = .number s m i ∧ (m = 0 ∨ i + m.log2 ≤ k)
/-- How great a sum is. -/
theorem sum_bound {s t : Bool} {m n : Nat} {i' j' k : Int} (h1 : m = 0 ∨ i' + m.log2 ≤ k) (h2 : n = 0 ∨ j' + n.log2 ≤ k) {T : Nat} (hT : T = (signed s m (i' - min i' j').toNat + signed t n (j' - min i' j').toNat).natAbs) : T = 0 ∨ min i' j' + T.log2 ≤ k + 1 := by
  by_cases hT0 : T = 0
  · exact .inl hT0
  right
  have e : ∀ (s : Bool) (m k : Nat), (signed s m k).natAbs = m * 2 ^ k := by
    intro s m k
    unfold signed
    rw [Nat.shiftLeft_eq]
    split
    · rw [Int.natAbs_neg, Int.natAbs_natCast]
    · rw [Int.natAbs_natCast]
  have hle : T ≤ m * 2 ^ (i' - min i' j').toNat + n * 2 ^ (j' - min i' j').toNat := by
    rw [hT, ← e s, ← e t]; omega
  have one : ∀ (m : Nat) (i : Int), min i' j' ≤ i → (m = 0 ∨ i + m.log2 ≤ k) → m * 2 ^ (i - min i' j').toNat < 2 ^ (k - min i' j' + 1).toNat := by
    intro m i hi h
    rcases h with rfl | h
    · rw [Nat.zero_mul]; exact Nat.two_pow_pos _
    · have h3 : m * 2 ^ (i - min i' j').toNat < 2 ^ (m.log2 + 1) * 2 ^ (i - min i' j').toNat := Nat.mul_lt_mul_of_pos_right Nat.lt_log2_self (Nat.two_pow_pos _)
      rw [← Nat.pow_add] at h3
      exact Nat.lt_of_lt_of_le h3 (Nat.pow_le_pow_right (by omega) (by omega))
  have a := one m i' (by omega) h1
  have b := one n j' (by omega) h2
  by_cases hk : k - min i' j' + 1 < 0
  · rw [show (k - min i' j' + 1).toNat = 0 by omega] at a b
    omega
  · have hT2 : T.log2 ≤ (k - min i' j' + 1).toNat := log2_le (by rw [Nat.pow_succ]; omega)
    omega
theorem bits64_add (x y : Nat) : floatBits .add .f64 x y = ((FloatKind.f64.decode x).sum (FloatKind.f64.decode y)).map FloatKind.f64.format.write := rfl
theorem bits64_quo (x y : Nat) : floatBits .quo .f64 x y = ((FloatKind.f64.decode x).quotient 54 (FloatKind.f64.decode y)).map FloatKind.f64.format.write := rfl
theorem read64_bd {b : Nat} {s : Bool} {m : Nat} {i : Int} (h : FloatKind.f64.decode b = .number s m i) : m < 2 ^ 53 := by
  unfold FloatKind.decode Format.read at h
  rw [f64_binade, f64_inf] at h
  have c53 : (2 : Nat) ^ 53 = 9007199254740992 := rfl
  simp only at h
  split at h
  · simp only [Datum.number.injEq] at h; omega
  · split at h
    · simp only [Datum.number.injEq] at h; omega
    · split at h <;> cases h
/-- A sum by way of doubles is the sum. -/
theorem add_dbl {x y : Nat} {k : Int} (hx : SmB k x) (hy : SmB k y) (hk : k ≤ 100) : (∃ r1 r2 r3, floatToFloatBits .f32 x .f64 = some r1 ∧ floatToFloatBits .f32 y .f64 = some r2 ∧ floatBits .add .f64 r1 r2 = some r3 ∧ floatToFloatBits .f64 r3 .f32 = some (fop .add x y)) ∧ SmB (k + 2) (fop .add x y) := by
  obtain ⟨s, m, i, ex, bx⟩ := hx
  obtain ⟨t, n, j, ey, by'⟩ := hy
  obtain ⟨m1, m2, _⟩ := read_bd ex
  obtain ⟨n1, n2, _⟩ := read_bd ey
  obtain ⟨r1, k1, l1, w1, w2, w3, w4, w5⟩ := widen x s m i ex
  obtain ⟨r2, k2, l2, v1, v2, v3, v4, v5⟩ := widen y t n j ey
  obtain ⟨sg, T, c, e1, e2, e3⟩ := sum_wide s t m n w3 v3
  have hb := sum_bound bx by' e3
  have hf : floatBits .add .f32 x y = some (FloatKind.f32.format.nearest sg T (min i j)) := by rw [bits_add, ex, ey, e1]; rfl
  obtain ⟨k', l', hr⟩ := finite_write sg T (min i j) (hb.imp id fun h => by omega)
  have hF : fop .add x y = FloatKind.f32.format.nearest sg T (min i j) := by
    unfold fop
    rw [hf]
    exact canon_of_num (by rw [isNaN_iff, hr]; rfl)
  rw [hF]
  refine ⟨⟨r1, r2, FloatKind.f64.format.nearest sg T (min i j), w1, v1, ?_, ?_⟩, ?_⟩
  · rw [bits64_add, w2, v2, w5, v5, e2]
    show some (FloatKind.f64.format.nearest sg (T * 2 ^ c) (min i j - (c : Int))) = _
    rw [nearest_scale]
  · by_cases hL : T.log2 ≤ 52
    · exact dbl_exact sg hL (by omega) (hb.imp id fun h => by omega)
    · have hT0 : T ≠ 0 := by rintro rfl; simp at hL
      have hb : min i j + T.log2 ≤ k + 1 := hb.resolve_left hT0
      refine dbl_long sg (by omega) (by omega) (by omega) (rhe_twice (Nat.two_pow_pos _) (by omega) ?_)
      obtain ⟨A, b, D, hA, hbb, hc⟩ := sum_parts s t m n i j m1 n1
      rw [← e3] at hc
      rcases hc with h | h | h
      · exact sum_tie (.inl h) hA hbb (by omega)
      · exact sum_tie (.inr h) hA hbb (by omega)
      · have : T.log2 ≤ 23 := log2_small (by omega)
        omega
  · by_cases hT0 : T = 0
    · refine ⟨sg, 0, FloatKind.f32.format.leastPlace, ?_, .inl rfl⟩
      rw [hT0]
      exact nearest_zero _ _ _
    · refine ⟨sg, k', l', hr, ?_⟩
      have hw := write_bound FloatKind.f32.format f32_rungs hT0 hr
      rcases hw with h | h
      · exact .inl h
      · right
        rcases hb with h2 | h2
        · exact absurd h2 hT0
        · omega

theorem quo_log {X n l : Nat} (hn : 0 < n) (h1 : 2 ^ l * n ≤ X) (h2 : X < 2 ^ (l + 1) * n) (c : Bool) : (2 * (X / n) + c.toNat).log2 = l + 1 := by
  have a : 2 ^ l ≤ X / n := by rw [Nat.le_div_iff_mul_le hn]; exact h1
  have b : X / n < 2 ^ (l + 1) := by rw [Nat.div_lt_iff_lt_mul hn]; exact h2
  have hc : c.toNat ≤ 1 := by cases c <;> decide
  have e1 : (2 : Nat) ^ (l + 1) = 2 * 2 ^ l := by rw [Nat.pow_succ, Nat.mul_comm]
  have e2 : (2 : Nat) ^ (l + 1 + 1) = 2 * 2 ^ (l + 1) := by rw [Nat.pow_succ, Nat.mul_comm]
  exact log2_is (by omega) (by omega)
/-- A quotient by way of doubles is the quotient. -/
theorem quo_dbl {x y : Nat} {s t : Bool} {m n : Nat} {i j : Int} (ex : rd x = .number s m i) (ey : rd y = .number t n j) (hm : m ≠ 0) (hn : n ≠ 0) (b1 : -125 ≤ i + m.log2 - (j + n.log2)) (b2 : i + m.log2 - (j + n.log2) ≤ 120) :
    (∃ r1 r2 r3, floatToFloatBits .f32 x .f64 = some r1 ∧ floatToFloatBits .f32 y .f64 = some r2 ∧ floatBits .quo .f64 r1 r2 = some r3 ∧ floatToFloatBits .f64 r3 .f32 = some (fop .quo x y)) ∧ SmB (i + m.log2 - (j + n.log2) + 1) (fop .quo x y) ∧ ∃ k l, rd (fop .quo x y) = .number (s ^^ t) k l := by
  obtain ⟨m1, m2, _⟩ := read_bd ex
  obtain ⟨n1, n2, _⟩ := read_bd ey
  have lm := log2_small m1
  have ln := log2_small n1
  obtain ⟨r1, k1, l1, w1, w2, w3, w4, w5⟩ := widen x s m i ex
  obtain ⟨r2, k2, l2, v1, v2, v3, v4, v5⟩ := widen y t n j ey
  have hk1 : k1.log2 ≤ 52 := log2_le (read64_bd w2)
  rw [w5, log2_mul_pow _ hm] at hk1
  obtain ⟨T, hT⟩ : ∃ T, T = 25 + n.log2 - m.log2 := ⟨_, rfl⟩
  obtain ⟨X, hX⟩ : ∃ X, X = m * 2 ^ T := ⟨_, rfl⟩
  have n0 : 0 < n := by omega
  -- how long the quotient is
  have pm1 : 2 ^ m.log2 ≤ m := Nat.log2_self_le hm
  have pm2 : m < 2 ^ (m.log2 + 1) := Nat.lt_log2_self
  have pn1 : 2 ^ n.log2 ≤ n := Nat.log2_self_le hn
  have pn2 : n < 2 ^ (n.log2 + 1) := Nat.lt_log2_self
  have x1 : 2 ^ (25 + n.log2) ≤ X := by
    rw [hX, show 25 + n.log2 = m.log2 + T by omega, Nat.pow_add]
    exact Nat.mul_le_mul_right _ pm1
  have x2 : X < 2 ^ (26 + n.log2) := by
    rw [hX, show 26 + n.log2 = (m.log2 + 1) + T by omega, Nat.pow_add]
    exact Nat.mul_lt_mul_of_pos_right pm2 (Nat.two_pow_pos _)
  obtain ⟨l, hl, hl1, hl2⟩ : ∃ l, (l = 24 ∨ l = 25) ∧ 2 ^ l * n ≤ X ∧ X < 2 ^ (l + 1) * n := by
    have g1 : 2 ^ 24 * n ≤ X := by
      have : 2 ^ 24 * n ≤ 2 ^ 24 * 2 ^ (n.log2 + 1) := Nat.mul_le_mul_left _ (by omega)
      rw [← Nat.pow_add, show 24 + (n.log2 + 1) = 25 + n.log2 by omega] at this
      omega
    have g2 : X < 2 ^ 26 * n := by
      have : 2 ^ 26 * 2 ^ n.log2 ≤ 2 ^ 26 * n := Nat.mul_le_mul_left _ pn1
      rw [← Nat.pow_add] at this
      omega
    rcases Nat.lt_or_ge X (2 ^ 25 * n) with h | h
    · exact ⟨24, .inl rfl, g1, h⟩
    · exact ⟨25, .inr rfl, h, g2⟩
  have n25 := quo_log n0 hl1 hl2 (X % n != 0)
  obtain ⟨Y, hY⟩ : ∃ Y, Y = X * 2 ^ 29 := ⟨_, rfl⟩
  have n54 := quo_log (X := Y) (l := l + 29) n0 (by rw [hY, Nat.pow_add, Nat.mul_right_comm]; exact Nat.mul_le_mul_right _ hl1) (by rw [hY, show l + 29 + 1 = (l + 1) + 29 by omega, Nat.pow_add, Nat.mul_right_comm]; exact Nat.mul_lt_mul_of_pos_right hl2 (Nat.two_pow_pos _)) (Y % n != 0)
  have e1 : (Datum.number s m i).quotient 25 (.number t n j) = some (.number (s ^^ t) (2 * (X / n) + (X % n != 0).toNat) (i - j - T - 1)) := by
    simp only [Datum.quotient]
    rw [if_neg hn, Nat.shiftLeft_eq, ← hT, ← hX]
  have e2 : (Datum.number s k1 l1).quotient 54 (.number t k2 l2) = some (.number (s ^^ t) (2 * (Y / n) + (Y % n != 0).toNat) (i - j - T - 30)) := by
    have hk2 : k2 ≠ 0 := by rw [v5]; exact Nat.mul_ne_zero hn (Nat.ne_of_gt (Nat.two_pow_pos _))
    simp only [Datum.quotient]
    rw [if_neg hk2, Nat.shiftLeft_eq]
    obtain ⟨more, hmore⟩ : ∃ more, more = 54 + k2.log2 - k1.log2 := ⟨_, rfl⟩
    rw [← hmore]
    have hmm : more = 54 + (n.log2 + (j - l2).toNat) - (m.log2 + (i - l1).toNat) := by rw [hmore, w5, v5, log2_mul_pow _ hm, log2_mul_pow _ hn]
    have eY : k1 * 2 ^ more = Y * 2 ^ (j - l2).toNat := by
      rw [w5, hY, hX, Nat.mul_assoc, Nat.mul_assoc, Nat.mul_assoc, ← Nat.pow_add, ← Nat.pow_add, ← Nat.pow_add]
      congr 2; omega
    have hp : 0 < 2 ^ (j - l2).toNat := Nat.two_pow_pos _
    have eb : ∀ a : Nat, (a * 2 ^ (j - l2).toNat != 0) = (a != 0) := by
      intro a
      rw [Bool.eq_iff_iff, bne_iff_ne, bne_iff_ne]
      constructor
      · rintro h rfl; exact h (Nat.zero_mul _)
      · intro h; exact Nat.mul_ne_zero h (by omega)
    rw [eY, v5, Nat.mul_div_mul_right _ _ hp, Nat.mul_mod_mul_right, eb]
    congr 2
    omega
  have hsame : FloatKind.f32.format.nearest (s ^^ t) (2 * (Y / n) + (Y % n != 0).toNat) (i - j - T - 30) = FloatKind.f32.format.nearest (s ^^ t) (2 * (X / n) + (X % n != 0).toNat) (i - j - T - 1) := by
    have z1 : 2 * (X / n) + (X % n != 0).toNat ≠ 0 := by intro h; rw [h] at n25; simp at n25
    have z2 : 2 * (Y / n) + (Y % n != 0).toNat ≠ 0 := by intro h; rw [h] at n54; simp at n54
    have c1 := nearest_rhe FloatKind.f32.format (s ^^ t) (i - j - T - 1) (i - j - T - 1 + (l - 22)) z1 (by rw [f32_least, f32_frac, n25]; omega) (by omega)
    have c2 := nearest_rhe FloatKind.f32.format (s ^^ t) (i - j - T - 30) (i - j - T - 1 + (l - 22)) z2 (by rw [f32_least, f32_frac, n54]; omega) (by omega)
    rw [show (i - j - (T : Int) - 1 + ((l : Int) - 22) - (i - j - T - 1)).toNat = (l - 24) + 2 by omega, rhe_sticky n0] at c1
    rw [show (i - j - (T : Int) - 1 + ((l : Int) - 22) - (i - j - T - 30)).toNat = (l + 5) + 2 by omega, rhe_sticky n0] at c2
    have e5 : n * 2 ^ (l + 5 + 1) = n * 2 ^ (l - 24 + 1) * 2 ^ 29 := by rw [Nat.mul_assoc, ← Nat.pow_add]; congr 2; omega
    have e6 : rhe Y (n * 2 ^ (l + 5 + 1)) = rhe X (n * 2 ^ (l - 24 + 1)) := by rw [e5, hY, rhe_mul _ _ _ (Nat.two_pow_pos 29)]
    rw [c1, c2, e6]
  have hlong : floatToFloatBits .f64 (FloatKind.f64.format.nearest (s ^^ t) (2 * (Y / n) + (Y % n != 0).toNat) (i - j - T - 30)) .f32 = some (FloatKind.f32.format.nearest (s ^^ t) (2 * (Y / n) + (Y % n != 0).toNat) (i - j - T - 30)) := by
    refine dbl_long (s ^^ t) (by omega) (by rw [n54]; omega) (by rw [n54]; omega) ?_
    have hbig : 4503599627370496 ≤ rhe (2 * (Y / n) + (Y % n != 0).toNat) (2 ^ (l + 29 + 1 - 52)) := by
      refine rhe_ge (Nat.two_pow_pos _) ?_
      have hz : 2 * (Y / n) + (Y % n != 0).toNat ≠ 0 := by intro h; rw [h] at n54; simp at n54
      have := Nat.log2_self_le hz
      rw [n54] at this
      rw [show (4503599627370496 : Nat) = 2 ^ 52 by rfl, ← Nat.pow_add, show 52 + (l + 29 + 1 - 52) = l + 29 + 1 by omega]
      exact this
    rw [n54]
    rw [show l + 29 + 1 - 52 = (l - 24) + 2 by omega] at hbig ⊢
    have e6 : (2 : Nat) ^ (l - 24 + 2) * (2 * 268435456) = 2 ^ ((l - 24 + 29) + 2) := by rw [show (2 * 268435456 : Nat) = 2 ^ 29 by rfl, ← Nat.pow_add]
    rw [e6, rhe_sticky n0, rhe_sticky n0]
    rw [rhe_sticky n0] at hbig
    have e7 : n * 2 ^ (l - 24 + 29 + 1) = n * 2 ^ (l - 24 + 1) * (2 * 268435456) := by rw [show (2 * 268435456 : Nat) = 2 ^ 29 by rfl, Nat.mul_assoc, ← Nat.pow_add]
    rw [e7]
    have hYm : Y = m * 2 ^ (T + 29) := by rw [hY, hX, Nat.mul_assoc, ← Nat.pow_add]
    refine rhe_twice (Nat.mul_pos n0 (Nat.two_pow_pos _)) (by omega) ?_
    rw [hYm] at hbig ⊢
    exact quo_tie m1 n0 n1 rfl hbig
  have hf : floatBits .quo .f32 x y = some (FloatKind.f32.format.nearest (s ^^ t) (2 * (X / n) + (X % n != 0).toNat) (i - j - T - 1)) := by rw [bits_quo, ex, ey, e1]; rfl
  obtain ⟨k', l', hr⟩ := finite_write (s ^^ t) (2 * (X / n) + (X % n != 0).toNat) (i - j - T - 1) (by right; rw [n25]; omega)
  have hF : fop .quo x y = FloatKind.f32.format.nearest (s ^^ t) (2 * (X / n) + (X % n != 0).toNat) (i - j - T - 1) := by
    unfold fop
    rw [hf]
    exact canon_of_num (by rw [isNaN_iff, hr]; rfl)
  rw [hF]
  refine ⟨⟨r1, r2, _, w1, v1, ?_, hlong.trans (by rw [hsame])⟩, ⟨_, _, _, hr, ?_⟩, k', l', hr⟩
  · rw [bits64_quo, w2, v2, e2]; rfl
  · have hz : 2 * (X / n) + (X % n != 0).toNat ≠ 0 := by intro h; rw [h] at n25; simp at n25
    have hw := write_bound FloatKind.f32.format f32_rungs hz hr
    rcases hw with h | h
    · exact .inl h
    · right; rw [n25] at h; omega
end

section
open Go.RowKit Ieee

theorem ofInt_log {n : Nat} (h1 : 1 ≤ n) (h2 : n < 8388608) : ∃ m p, rd (floatOfInt .f32 (n : Int)) = .number false m p ∧ m ≠ 0 ∧ p + (m.log2 : Int) = n.log2 := by
  obtain ⟨⟨s, m, p, hr, hv⟩, m', p', hr', _⟩ := ofInt_val (n := (n : Int)) (by omega) (by omega)
  rw [decide_eq_false (by omega)] at hr'
  rw [hr] at hr'
  injection hr' with e1 e2 e3
  subst e1
  have e := hv (min p 0) (by omega) (by omega)
  rw [signed_pow, if_neg (by simp)] at e
  have en : m * 2 ^ (p - min p 0).toNat = n * 2 ^ (-min p 0).toNat := by exact_mod_cast e
  have hm : m ≠ 0 := by
    rintro rfl
    rw [Nat.zero_mul] at en
    have : n * 2 ^ (-min p 0).toNat ≠ 0 := Nat.mul_ne_zero (by omega) (Nat.ne_of_gt (Nat.two_pow_pos _))
    omega
  have hl : (m * 2 ^ (p - min p 0).toNat).log2 = (n * 2 ^ (-min p 0).toNat).log2 := by rw [en]
  rw [log2_mul_pow _ hm, log2_mul_pow _ (by omega)] at hl
  exact ⟨m, p, hr, hm, by omega⟩
/-- A quotient of two small whole numbers by way of doubles. -/
theorem share_dbl {a b : Nat} (a1 : 1 ≤ a) (a2 : a < 8388608) (b1 : 1 ≤ b) (b2 : b < 8388608) :
    (∃ r1 r2 r3, floatToFloatBits .f32 (floatOfInt .f32 (a : Int)) .f64 = some r1 ∧ floatToFloatBits .f32 (floatOfInt .f32 (b : Int)) .f64 = some r2 ∧ floatBits .quo .f64 r1 r2 = some r3 ∧ floatToFloatBits .f64 r3 .f32 = some (fop .quo (floatOfInt .f32 (a : Int)) (floatOfInt .f32 (b : Int)))) ∧
    ∃ k l, rd (fop .quo (floatOfInt .f32 (a : Int)) (floatOfInt .f32 (b : Int))) = .number false k l := by
  obtain ⟨m, i, ea, hm, la⟩ := ofInt_log a1 a2
  obtain ⟨n, j, eb, hn, lb⟩ := ofInt_log b1 b2
  have l1 : a.log2 ≤ 22 := log2_le (by omega)
  have l2 : b.log2 ≤ 22 := log2_le (by omega)
  obtain ⟨h1, _, h3⟩ := quo_dbl ea eb hm hn (by omega) (by omega)
  exact ⟨h1, h3⟩
theorem fop_lt (op : BinOp) {x y : Nat} {s m i : _} (h : rd (fop op x y) = .number s m i) (hop : op = .add ∨ op = .sub ∨ op = .mul ∨ op = .quo) : fop op x y < 4294967296 := by
  have hw : ∀ d : Datum, d.isNaN = false → FloatKind.f32.format.write d < 4294967296 := by
    intro d hd
    have hs : FloatKind.f32.format.signWeight = 2147483648 := by decide
    have hi := f32_inf
    have word_lt : ∀ (s : Bool) (r : Nat), r ≤ FloatKind.f32.format.infRung → FloatKind.f32.format.word s r < 4294967296 := by
      intro s r hr
      unfold Format.word
      rw [hs]
      rw [hi] at hr
      split <;> omega
    cases d with
    | nan s f => simp [Datum.isNaN] at hd
    | infinity s => exact word_lt s _ (Nat.le_refl _)
    | number s m p =>
      show FloatKind.f32.format.nearest s m p < _
      unfold Format.nearest
      split
      · exact word_lt s 0 (Nat.zero_le _)
      · exact word_lt s _ (Nat.min_le_right _ _)
  have hc : ∀ b, b < 4294967296 → canon b < 4294967296 := by
    intro b hb
    unfold canon
    split
    · decide
    · exact hb
  unfold fop
  cases hf : floatBits op .f32 x y with
  | none => decide
  | some r =>
    show canon r < _
    refine hc r ?_
    have : ∃ d : Datum, d.isNaN = false ∧ r = FloatKind.f32.format.write d := by
      rcases hop with rfl | rfl | rfl | rfl
      · rw [bits_add] at hf; obtain ⟨d, h1, h2⟩ := map_some hf; exact ⟨d, Bool.eq_false_iff.2 fun h => sum_not_nan h1 (by cases d <;> simp_all [Datum.isNaN]), h2⟩
      · rw [bits_sub] at hf; obtain ⟨d, h1, h2⟩ := map_some hf; exact ⟨d, Bool.eq_false_iff.2 fun h => sum_not_nan h1 (by cases d <;> simp_all [Datum.isNaN]), h2⟩
      · rw [bits_mul] at hf; obtain ⟨d, h1, h2⟩ := map_some hf; exact ⟨d, Bool.eq_false_iff.2 fun h => product_not_nan h1 (by cases d <;> simp_all [Datum.isNaN]), h2⟩
      · rw [bits_quo] at hf; obtain ⟨d, h1, h2⟩ := map_some hf; exact ⟨d, Bool.eq_false_iff.2 fun h => quotient_not_nan h1 (by cases d <;> simp_all [Datum.isNaN]), h2⟩
    obtain ⟨d, h1, h2⟩ := this
    rw [h2]; exact hw d h1
/-- What a positive word stands for, in units of the least place. -/
def unitsOf (r : Nat) : Nat := if r < 8388608 then r else (8388608 + r % 8388608) * 2 ^ (r / 8388608 - 1)
theorem rd_units {r : Nat} (h : r < 4294967296) {m : Nat} {i : Int} (hr : rd r = .number false m i) : r < 2147483648 ∧ -149 ≤ i ∧ m * 2 ^ (i + 149).toNat = unitsOf r := by
  have hs : FloatKind.f32.format.signWeight = 2147483648 := by decide
  unfold rd Format.read at hr
  rw [hs, f32_binade, f32_inf, f32_least] at hr
  simp only at hr
  have hlt : r < 2147483648 := by
    rcases Nat.lt_or_ge r 2147483648 with h1 | h1
    · exact h1
    · exfalso
      have : (r / 2147483648 % 2 == 1) = true := by
        have : r / 2147483648 = 1 := by omega
        rw [this]; rfl
      rw [this] at hr
      split at hr
      · simp at hr
      · split at hr
        · simp at hr
        · split at hr <;> cases hr
  rw [Nat.mod_eq_of_lt hlt] at hr
  refine ⟨hlt, ?_⟩
  unfold unitsOf
  split at hr
  · rename_i c
    rw [if_pos c]
    injection hr with e1 e2 e3
    subst e2; subst e3
    exact ⟨by omega, by simp⟩
  · rename_i c
    rw [if_neg c]
    split at hr
    · injection hr with e1 e2 e3
      subst e2; subst e3
      refine ⟨by omega, ?_⟩
      congr 2; omega
    · split at hr <;> cases hr
theorem units_lt {a b : Nat} (h : a < b) : unitsOf a < unitsOf b := by
  unfold unitsOf
  by_cases hb : b < 8388608
  · rw [if_pos hb, if_pos (by omega)]; exact h
  · rw [if_neg hb]
    have hp : ∀ k, 0 < 2 ^ k := fun k => Nat.two_pow_pos k
    by_cases ha : a < 8388608
    · rw [if_pos ha]
      have := Nat.le_mul_of_pos_right (8388608 + b % 8388608) (hp (b / 8388608 - 1))
      omega
    · rw [if_neg ha]
      have hle : a / 8388608 ≤ b / 8388608 := Nat.div_le_div_right (Nat.le_of_lt h)
      rcases Nat.lt_or_eq_of_le hle with hlt | he
      · have e : 2 * 2 ^ (a / 8388608 - 1) ≤ 2 ^ (b / 8388608 - 1) := by
          rw [← Nat.pow_succ']
          exact Nat.pow_le_pow_right (by omega) (by have : 1 ≤ a / 8388608 := by omega
                                                    omega)
        have h1 : (8388608 + a % 8388608) * 2 ^ (a / 8388608 - 1) < 16777216 * 2 ^ (a / 8388608 - 1) := Nat.mul_lt_mul_of_pos_right (by omega) (hp _)
        have h2 : 8388608 * 2 ^ (b / 8388608 - 1) ≤ (8388608 + b % 8388608) * 2 ^ (b / 8388608 - 1) := Nat.mul_le_mul_right _ (by omega)
        omega
      · rw [he]
        exact Nat.mul_lt_mul_of_pos_right (by omega) (hp _)
/-- Positive words that are equal as numbers are the same word. -/
theorem pos_inj {a b : Nat} (ha : a < 4294967296) (hb : b < 4294967296) {m n : Nat} {i j : Int} (ra : rd a = .number false m i) (rb : rd b = .number false n j) (h : (rd a).order (rd b) = some .eq) : a = b := by
  obtain ⟨_, a1, a2⟩ := rd_units ha ra
  obtain ⟨_, b1, b2⟩ := rd_units hb rb
  rw [ra, rb] at h
  simp only [Datum.order, Option.some.injEq] at h
  have he := Int.compare_eq_eq.1 h
  rw [signed_pow, signed_pow, if_neg (by simp), if_neg (by simp)] at he
  have he2 : m * 2 ^ (i - min i j).toNat = n * 2 ^ (j - min i j).toNat := by exact_mod_cast he
  have e3 : m * 2 ^ (i + 149).toNat = n * 2 ^ (j + 149).toNat := by
    rw [show (i + 149).toNat = (i - min i j).toNat + (min i j + 149).toNat by omega, show (j + 149).toNat = (j - min i j).toNat + (min i j + 149).toNat by omega, Nat.pow_add, Nat.pow_add, ← Nat.mul_assoc, ← Nat.mul_assoc, he2]
  rw [a2, b2] at e3
  rcases Nat.lt_trichotomy a b with h1 | h1 | h1
  · have := units_lt h1; omega
  · exact h1
  · have := units_lt h1; omega
end
end Go.Proofs.YtemlabmmafcapaaGreatDoor
