/- Singles: how great a written number reads back; magnitude and square root through doubles are told. No program in sight. -/
import Derived.Test.YticekgnmiaidjaaGreatDoorNum
namespace Go.Proofs.YticekgnmiaidjaaGreatDoor

section
open Go.RowKit Ieee

theorem read_word (f : Format) (s : Bool) (r : Nat) (h : r < f.signWeight) : f.read (f.word s r) =
    if r < f.binade then .number s r f.leastPlace else if r < f.infRung then .number s (f.binade + r % f.binade) (f.leastPlace + (r / f.binade - 1 : Nat)) else if r = f.infRung then .infinity s else .nan s (r - f.infRung) := by
  have e1 : (f.word s r / f.signWeight % 2 == 1) = s := by
    unfold Format.word
    cases s
    · rw [if_neg (by simp), Nat.div_eq_of_lt h]; rfl
    · rw [if_pos rfl, Nat.add_div_left _ (by omega), Nat.div_eq_of_lt h]; rfl
  have e2 : f.word s r % f.signWeight = r := by
    unfold Format.word
    cases s
    · rw [if_neg (by simp)]; exact Nat.mod_eq_of_lt h
    · rw [if_pos rfl, Nat.add_mod_left]; exact Nat.mod_eq_of_lt h
  unfold Format.read
  simp only [e1, e2]

theorem cut_none (way : Toward) (neg : Bool) (n : Nat) : way.cut neg n 0 = n := by
  unfold Toward.cut
  rw [Nat.zero_min]
  have h1 : (1 <<< 0 : Nat) = 1 := rfl
  simp only [h1, Nat.div_one, Nat.mod_one]
  cases way <;> simp

theorem log2_le {m b : Nat} (h : m < 2 ^ (b + 1)) : m.log2 ≤ b := by
  by_cases hm : m = 0
  · subst hm; simp
  · have := (Nat.log2_lt hm).2 h
    omega

theorem nearest_exact (f : Format) (s : Bool) (m : Nat) (p last : Int) (hm : m ≠ 0) (hlast : last = max (p + m.log2 - f.fractionBits) f.leastPlace) (hle : last ≤ p)
    (hr : (last - f.leastPlace).toNat * f.binade + m * 2 ^ (p - last).toNat < f.infRung) : f.read (f.nearest s m p) = .number s (m * 2 ^ (p - last).toNat) last := by
  unfold Format.nearest
  rw [if_neg hm]
  simp only [← hlast]
  rw [show (last - p).toNat = 0 by omega, cut_none, Nat.shiftLeft_eq, Nat.min_eq_left (by omega)]
  have hlt := f.infRung_lt
  rw [read_word f s _ (by omega)]
  have hb : 0 < f.binade := Nat.two_pow_pos _
  have hbe : f.binade = 2 ^ f.fractionBits := rfl
  have hk2 : m * 2 ^ (p - last).toNat < 2 * f.binade := by
    have h1 : m < 2 ^ (m.log2 + 1) := Nat.lt_log2_self
    have h2 : m * 2 ^ (p - last).toNat < 2 ^ (m.log2 + 1) * 2 ^ (p - last).toNat := Nat.mul_lt_mul_of_pos_right h1 (Nat.two_pow_pos _)
    rw [← Nat.pow_add] at h2
    have h3 : 2 ^ (m.log2 + 1 + (p - last).toNat) ≤ 2 ^ (f.fractionBits + 1) := Nat.pow_le_pow_right (by omega) (by omega)
    rw [Nat.pow_succ] at h3
    omega
  have hk1 : f.leastPlace < last → f.binade ≤ m * 2 ^ (p - last).toNat := by
    intro hg
    have h1 : 2 ^ m.log2 ≤ m := Nat.log2_self_le hm
    have h2 : 2 ^ m.log2 * 2 ^ (p - last).toNat ≤ m * 2 ^ (p - last).toNat := Nat.mul_le_mul_right _ h1
    rw [← Nat.pow_add] at h2
    have h3 : m.log2 + (p - last).toNat = f.fractionBits := by omega
    rw [h3] at h2
    exact h2
  have hlp : f.leastPlace ≤ last := by omega
  generalize hK : m * 2 ^ (p - last).toNat = K at *
  by_cases hg : f.leastPlace < last
  · have hk := hk1 hg
    generalize hD : (last - f.leastPlace).toNat = D at *
    have hD1 : 1 ≤ D := by omega
    have hDb : f.binade ≤ D * f.binade := Nat.le_mul_of_pos_left _ hD1
    rw [if_neg (by omega), if_pos hr]
    have e1 : (D * f.binade + K) % f.binade = K - f.binade := by
      rw [show D * f.binade + K = (K - f.binade) + (D + 1) * f.binade by rw [Nat.add_mul]; omega, Nat.add_mul_mod_self_right]
      exact Nat.mod_eq_of_lt (by omega)
    have e2 : (D * f.binade + K) / f.binade = D + 1 := by
      rw [show D * f.binade + K = (K - f.binade) + (D + 1) * f.binade by rw [Nat.add_mul]; omega, Nat.add_mul_div_right _ _ hb, Nat.div_eq_of_lt (by omega)]
      omega
    rw [e1, e2]
    congr 1 <;> omega
  · have he : last = f.leastPlace := by omega
    have hD : (last - f.leastPlace).toNat = 0 := by omega
    rw [hD, Nat.zero_mul, Nat.zero_add] at hr ⊢
    by_cases hkb : K < f.binade
    · rw [if_pos hkb, he]
    · rw [if_neg hkb, if_pos hr]
      have e1 : K % f.binade = K - f.binade := by
        rw [show K = (K - f.binade) + 1 * f.binade by omega, Nat.add_mul_mod_self_right]
        rw [show K - f.binade + 1 * f.binade - f.binade = K - f.binade by omega]
        exact Nat.mod_eq_of_lt (by omega)
      have e2 : K / f.binade = 1 := by
        rw [show K = (K - f.binade) + 1 * f.binade by omega, Nat.add_mul_div_right _ _ hb, Nat.div_eq_of_lt (by omega)]
      rw [e1, e2]
      congr 1 <;> omega
theorem nearest_zero (f : Format) (s : Bool) (p : Int) : f.read (f.nearest s 0 p) = .number s 0 f.leastPlace := by
  unfold Format.nearest
  have hb : 0 < f.binade := Nat.two_pow_pos _
  rw [if_pos rfl, read_word f s 0 (Nat.two_pow_pos _), if_pos hb]

theorem f64_binade : FloatKind.f64.format.binade = 4503599627370496 := by decide
theorem f64_inf : FloatKind.f64.format.infRung = 9218868437227405312 := by decide
theorem f64_least : FloatKind.f64.format.leastPlace = -1074 := by decide
theorem f64_frac : FloatKind.f64.format.fractionBits = 52 := rfl

/-- A single that is a number, as a double: the same number. -/
theorem widen (b : Nat) (s : Bool) (m : Nat) (i : Int) (h : rd b = .number s m i) : ∃ r k l, floatToFloatBits .f32 b .f64 = some r ∧ FloatKind.f64.decode r = .number s k l ∧ l ≤ i ∧ -1074 ≤ l ∧ k = m * 2 ^ (i - l).toNat := by
  obtain ⟨h1, h2, h3⟩ := read_bd h
  have hd : FloatKind.f32.decode b = .number s m i := h
  have hne : ¬ (FloatKind.f32 = FloatKind.f64) := by decide
  have fin : ∀ k l, FloatKind.f64.decode (FloatKind.f64.encode (.number s m i)) = .number s k l → floatToFloatBits .f32 b .f64 = some (FloatKind.f64.encode (.number s m i)) := by
    intro k l hh
    unfold floatToFloatBits
    rw [if_neg hne, hd]
    simp only [hh]
    rfl
  by_cases hm : m = 0
  · subst hm
    have e := nearest_zero FloatKind.f64.format s i
    exact ⟨_, 0, -1074, fin 0 _ e, by rw [← f64_least]; exact e, by omega, by omega, by simp⟩
  · have hl : m.log2 ≤ 23 := log2_le (by omega)
    have e := nearest_exact FloatKind.f64.format s m i (max (i + m.log2 - 52) (-1074)) hm (by rw [f64_least, f64_frac]; rfl) (by omega) (by
      rw [f64_binade, f64_inf, f64_least]
      have hp : m * 2 ^ (i - max (i + m.log2 - 52) (-1074)).toNat < 2 ^ 53 := by
        have g1 : m < 2 ^ (m.log2 + 1) := Nat.lt_log2_self
        have g2 : m * 2 ^ (i - max (i + m.log2 - 52) (-1074)).toNat < 2 ^ (m.log2 + 1) * 2 ^ (i - max (i + m.log2 - 52) (-1074)).toNat := Nat.mul_lt_mul_of_pos_right g1 (Nat.two_pow_pos _)
        rw [← Nat.pow_add] at g2
        exact Nat.lt_of_lt_of_le g2 (Nat.pow_le_pow_right (by omega) (by omega))
      generalize m * 2 ^ (i - max (i + m.log2 - 52) (-1074)).toNat = K at *
      have : (max (i + (m.log2 : Int) - 52) (-1074) - -1074).toNat ≤ 1149 := by omega
      have := Nat.mul_le_mul_right 4503599627370496 this
      omega)
    exact ⟨_, _, _, fin _ _ e, e, by omega, by omega, rfl⟩

/-- Not below nought (or a NaN). -/
def NN (d : Datum) : Prop := match d with | .number s m _ => s = false ∨ m = 0 | .infinity s => s = false | .nan _ _ => True

set_option maxRecDepth 100000 in
theorem small_whole : ∀ q : Nat, q < 1024 → (floatToFloatBits .f64 (FloatKind.f64.encode (.number false q 0)) .f32).bind (fun r => floatToIntVal .f32 r .i64) = some (q : Int) := by decide +kernel
set_option maxRecDepth 100000 in
theorem small_zero : (floatToFloatBits .f64 (FloatKind.f64.encode (.number true 0 0)) .f32).bind (fun r => floatToIntVal .f32 r .i64) = some 0 := by decide +kernel
set_option maxRecDepth 100000 in
theorem small_int : ∀ n : Nat, n < 1025 → (match rd (floatOfInt .f32 (n : Int)) with | .number s k p => s == false && decide (p ≤ 0) && decide (-149 ≤ p) && k == n * 2 ^ (-p).toNat | _ => false) = true := by decide +kernel
end

section
open Go.RowKit Ieee

/-- Without a minus (or a NaN). -/
def PN (d : Datum) : Prop := match d with | .number s _ _ => s = false | .infinity s => s = false | .nan _ _ => True

theorem read_nearest (f : Format) (s : Bool) (m : Nat) (p : Int) : (∃ k l, f.read (f.nearest s m p) = .number s k l ∧ (m = 0 → k = 0)) ∨ f.read (f.nearest s m p) = .infinity s := by
  by_cases hm : m = 0
  · subst hm; exact .inl ⟨0, _, nearest_zero f s p, fun _ => rfl⟩
  · unfold Format.nearest
    rw [if_neg hm]
    simp only
    generalize hr : min _ f.infRung = r
    have h1 : r ≤ f.infRung := by rw [← hr]; exact Nat.min_le_right _ _
    have hlt := f.infRung_lt
    rw [read_word f s r (by omega)]
    split
    · exact .inl ⟨_, _, rfl, fun h => absurd h hm⟩
    · split
      · exact .inl ⟨_, _, rfl, fun h => absurd h hm⟩
      · rw [if_pos (by omega)]; exact .inr rfl
theorem f32_inf : FloatKind.f32.format.infRung = 2139095040 := by decide
theorem f32_binade : FloatKind.f32.format.binade = 8388608 := by decide
theorem read_inf (s : Bool) : FloatKind.f32.format.read (FloatKind.f32.format.word s FloatKind.f32.format.infRung) = .infinity s := by
  rw [read_word _ s _ FloatKind.f32.format.infRung_lt, f32_inf, f32_binade, if_neg (by omega), if_neg (by omega), if_pos rfl]

theorem NN_write {d : Datum} (h : NN d) : NN (rd (FloatKind.f32.format.write d)) ∨ ∃ s t, d = .nan s t := by
  cases d with
  | number s m p =>
    left
    rcases read_nearest FloatKind.f32.format s m p with ⟨k, l, h1, h2⟩ | h1
    · show NN (FloatKind.f32.format.read (FloatKind.f32.format.nearest s m p))
      rw [h1]
      exact h.imp id h2
    · show NN (FloatKind.f32.format.read (FloatKind.f32.format.nearest s m p))
      rcases h with h | h
      · rw [h1]; exact h
      · subst h; rw [nearest_zero] at h1; cases h1
  | infinity s => left; show NN (FloatKind.f32.format.read (FloatKind.f32.format.word s FloatKind.f32.format.infRung)); rw [read_inf]; exact h
  | nan s t => exact .inr ⟨s, t, rfl⟩
theorem PN_write {d : Datum} (h : PN d) : PN (rd (FloatKind.f32.format.write d)) ∨ ∃ s t, d = .nan s t := by
  cases d with
  | number s m p =>
    left
    show PN (FloatKind.f32.format.read (FloatKind.f32.format.nearest s m p))
    rcases read_nearest FloatKind.f32.format s m p with ⟨k, l, h1, h2⟩ | h1
    · rw [h1]; exact h
    · rw [h1]; exact h
  | infinity s => left; show PN (FloatKind.f32.format.read (FloatKind.f32.format.word s FloatKind.f32.format.infRung)); rw [read_inf]; exact h
  | nan s t => exact .inr ⟨s, t, rfl⟩

theorem signed_not (t : Bool) (n k : Nat) : signed (!t) n k = - signed t n k := by cases t <;> simp [signed]

theorem cmp_ge {a b : Int} (h : compare a b ≠ .lt) : b ≤ a := by
  rw [Int.compare_eq_ite_lt] at h
  split at h
  · exact absurd rfl h
  · omega
theorem cmp_lt {a b : Int} (h : compare a b = .lt) : a < b := by
  rw [Int.compare_eq_ite_lt] at h
  split at h
  · assumption
  · split at h <;> cases h

/-- What lies not below a number, less that number. -/
theorem sub_sum_NN {v l d : Datum} (hl : ∃ t n j, l = .number t n j) (h : v.order l = some .gt ∨ v.order l = some .eq) (hd : v.sum l.opposite = some d) : NN d := by
  obtain ⟨t, n, j, rfl⟩ := hl
  cases v with
  | nan s f => simp [Datum.order] at h
  | infinity s =>
    simp only [Datum.opposite, Datum.sum, Option.some.injEq] at hd
    subst hd
    cases s
    · rfl
    · simp [Datum.order] at h
  | number s m i =>
    simp only [Datum.opposite, Datum.sum, Option.some.injEq] at hd
    simp only [Datum.order, Option.some.injEq] at h
    have hge := cmp_ge (a := signed s m (i - min i j).toNat) (b := signed t n (j - min i j).toNat) (by rcases h with h | h <;> rw [h] <;> decide)
    rw [signed_not] at hd
    subst hd
    show _ = false ∨ _ = 0
    generalize signed s m (i - min i j).toNat = A at *
    generalize signed t n (j - min i j).toNat = B at *
    by_cases h0 : A + -B = 0
    · right; rw [h0]; rfl
    · left; rw [if_neg h0]; simp; omega
theorem sub_sum_PN {v l d : Datum} (hv : ∃ s m i, v = .number s m i) (hl : ∃ t n j, l = .number t n j) (h : l.order v = some .lt) (hd : v.sum l.opposite = some d) : PN d := by
  obtain ⟨s, m, i, rfl⟩ := hv
  obtain ⟨t, n, j, rfl⟩ := hl
  simp only [Datum.opposite, Datum.sum, Option.some.injEq] at hd
  simp only [Datum.order, Option.some.injEq] at h
  have hlt := cmp_lt h
  rw [Int.min_comm j i] at hlt
  rw [signed_not] at hd
  subst hd
  show _ = false
  generalize signed s m (i - min i j).toNat = A at *
  generalize signed t n (j - min i j).toNat = B at *
  rw [if_neg (by omega)]
  simp; omega
theorem sum_not_nan {a b d : Datum} (h : a.sum b = some d) : ¬ ∃ s t, d = .nan s t := by
  rintro ⟨s, t, rfl⟩
  cases a <;> cases b <;> simp [Datum.sum] at h
theorem quotient_not_nan {g : Nat} {a b d : Datum} (h : a.quotient g b = some d) : ¬ ∃ s t, d = .nan s t := by
  rintro ⟨s, t, rfl⟩
  cases a <;> cases b <;> simp [Datum.quotient] at h
  split at h
  · split at h <;> simp at h
  · simp at h
theorem product_not_nan {a b d : Datum} (h : a.product b = some d) : ¬ ∃ s t, d = .nan s t := by
  rintro ⟨s, t, rfl⟩
  cases a <;> cases b <;> simp [Datum.product] at h
theorem quot_NN {g : Nat} {a b d : Datum} (ha : NN a) (hb : PN b) (h : a.quotient g b = some d) : NN d := by
  cases a with
  | nan s f => simp [Datum.quotient] at h
  | infinity s =>
    cases b with
    | nan => simp [Datum.quotient] at h
    | infinity => simp [Datum.quotient] at h
    | number t n j =>
      simp only [Datum.quotient, Option.some.injEq] at h
      subst h
      have h1 : s = false := ha
      have h2 : t = false := hb
      subst h1 h2; rfl
  | number s m i =>
    cases b with
    | nan => simp [Datum.quotient] at h
    | infinity t =>
      simp only [Datum.quotient, Option.some.injEq] at h
      subst h
      exact .inr rfl
    | number t n j =>
      have h2 : t = false := hb
      subst h2
      simp only [Datum.quotient] at h
      split at h
      · split at h
        · cases h
        · rename_i hm
          simp only [Option.some.injEq] at h
          subst h
          rcases ha with h1 | h1
          · subst h1; rfl
          · exact absurd h1 hm
      · simp only [Option.some.injEq] at h
        subst h
        rcases ha with h1 | h1
        · subst h1; exact .inl rfl
        · subst h1; right; simp
theorem prod_NN {a b d : Datum} (ha : NN a) (hb : ∃ n j, b = .number false n j) (h : a.product b = some d) : NN d := by
  obtain ⟨n, j, rfl⟩ := hb
  cases a with
  | nan s f => simp [Datum.product] at h
  | infinity s =>
    have h1 : s = false := ha
    subst h1
    simp only [Datum.product] at h
    split at h
    · cases h
    · simp only [Option.some.injEq] at h
      subst h; rfl
  | number s m i =>
    simp only [Datum.product, Option.some.injEq] at h
    subst h
    rcases ha with h1 | h1
    · subst h1; exact .inl rfl
    · subst h1; right; simp

theorem NN_theNaN : NN (rd theNaN) := by
  have h : rd theNaN = .nan false 4194304 := by decide
  rw [h]; trivial
theorem PN_theNaN : PN (rd theNaN) := by
  have h : rd theNaN = .nan false 4194304 := by decide
  rw [h]; trivial
theorem NN_fop {op : BinOp} {x y : Nat} (h : ∀ r, floatBits op .f32 x y = some r → NN (rd r)) : NN (rd (fop op x y)) := by
  unfold fop
  cases hf : floatBits op .f32 x y with
  | none => exact NN_theNaN
  | some r =>
    show NN (rd (canon r))
    unfold canon
    split
    · exact NN_theNaN
    · exact h r hf
theorem PN_fop {op : BinOp} {x y : Nat} (h : ∀ r, floatBits op .f32 x y = some r → PN (rd r)) : PN (rd (fop op x y)) := by
  unfold fop
  cases hf : floatBits op .f32 x y with
  | none => exact PN_theNaN
  | some r =>
    show PN (rd (canon r))
    unfold canon
    split
    · exact PN_theNaN
    · exact h r hf
theorem map_some {d : Option Datum} {r : Nat} (h : d.map FloatKind.f32.format.write = some r) : ∃ x, d = some x ∧ r = FloatKind.f32.format.write x := by
  cases d with
  | none => cases h
  | some x => exact ⟨x, rfl, by simpa using h.symm⟩

/-- The share of a bin, times the bins. -/
def binT (lo hi v : Nat) (n : Int) : Nat := fop .mul (fop .quo (fop .sub v lo) (fop .sub hi lo)) (floatOfInt .f32 n)

theorem isNum_rd {b : Nat} (h : isNum b = true) : ∃ s m i, rd b = .number s m i := by
  unfold isNum at h
  cases hb : rd b with
  | number s m i => exact ⟨s, m, i, rfl⟩
  | infinity s => rw [hb] at h; cases h
  | nan s t => rw [hb] at h; cases h
theorem ofInt_rd {n : Nat} (hn : n < 1025) : ∃ k p, rd (floatOfInt .f32 (n : Int)) = .number false k p ∧ p ≤ 0 ∧ -149 ≤ p ∧ k = n * 2 ^ (-p).toNat := by
  have h := small_int n hn
  revert h
  cases hr : rd (floatOfInt .f32 (n : Int)) with
  | infinity => intro h; cases h
  | nan => intro h; cases h
  | number s k p =>
    intro h
    simp only [Bool.and_eq_true, beq_iff_eq, decide_eq_true_eq] at h
    obtain ⟨⟨⟨rfl, h1⟩, h2⟩, h3⟩ := h
    exact ⟨k, p, rfl, h1, h2, h3⟩
theorem binT_NN {lo hi v n : Nat} (hlo : isNum lo = true) (hhi : isNum hi = true) (hn : n < 1025) (h1 : FloatKind.f32.format.order v lo = some .gt ∨ FloatKind.f32.format.order v lo = some .eq) (h2 : FloatKind.f32.format.order lo hi = some .lt) : NN (rd (binT lo hi v n)) := by
  have L := isNum_rd hlo
  have Hh := isNum_rd hhi
  have A : NN (rd (fop .sub v lo)) := NN_fop fun r hr => by
    obtain ⟨x, e1, rfl⟩ := map_some (d := (rd v).sum (rd lo).opposite) hr
    exact (NN_write (sub_sum_NN L h1 e1)).resolve_right (sum_not_nan e1)
  have Bp : PN (rd (fop .sub hi lo)) := PN_fop fun r hr => by
    obtain ⟨x, e1, rfl⟩ := map_some (d := (rd hi).sum (rd lo).opposite) hr
    exact (PN_write (sub_sum_PN Hh L h2 e1)).resolve_right (sum_not_nan e1)
  have Q : NN (rd (fop .quo (fop .sub v lo) (fop .sub hi lo))) := NN_fop fun r hr => by
    obtain ⟨x, e1, rfl⟩ := map_some (d := (rd (fop .sub v lo)).quotient 25 (rd (fop .sub hi lo))) hr
    exact (NN_write (quot_NN A Bp e1)).resolve_right (quotient_not_nan e1)
  obtain ⟨k, p, hk, _⟩ := ofInt_rd hn
  exact NN_fop fun r hr => by
    obtain ⟨x, e1, rfl⟩ := map_some (d := (rd (fop .quo (fop .sub v lo) (fop .sub hi lo))).product (rd (floatOfInt .f32 (n : Int)))) hr
    exact (NN_write (prod_NN Q ⟨k, p, hk⟩ e1)).resolve_right (product_not_nan e1)

/-- The whole part of a small single. -/
def wholeOf (T : Nat) : Nat := match floatToFloatBits .f32 T .f64 with
  | some r => (match (FloatKind.f64.decode r).integral .down with | .number _ q _ => q | _ => 0)
  | none => 0

theorem cut_down_pos (n drop : Nat) : Toward.down.cut false n drop = n / 2 ^ min drop (n.log2 + 2) := by
  unfold Toward.cut
  simp only [Bool.false_and, Bool.toNat_false, Nat.add_zero, Nat.shiftLeft_eq, Nat.one_mul]
theorem cut_down_zero (s : Bool) (drop : Nat) : Toward.down.cut s 0 drop = 0 := by
  unfold Toward.cut
  simp

theorem whole_small {T n : Nat} (hn : n < 1025) (hT : NN (rd T)) (hlt : FloatKind.f32.format.order T (floatOfInt .f32 (n : Int)) = some .lt) :
    ∃ r1 s k l r3, floatToFloatBits .f32 T .f64 = some r1 ∧ FloatKind.f64.decode r1 = .number s k l ∧ (Datum.number s k l).integral .down = .number s (wholeOf T) 0 ∧ floatToFloatBits .f64 (FloatKind.f64.encode (.number s (wholeOf T) 0)) .f32 = some r3 ∧ floatToIntVal .f32 r3 .i64 = some (wholeOf T : Int) ∧ wholeOf T < n := by
  obtain ⟨k2, p, hk, hp1, hp2, hkn⟩ := ofInt_rd hn
  have ho : (rd T).order (.number false k2 p) = some .lt := by rw [← hk]; exact hlt
  cases hr : rd T with
  | nan s t => rw [hr] at ho; simp [Datum.order] at ho
  | infinity s =>
    rw [hr] at hT ho
    have h1 : s = false := hT
    subst h1
    simp [Datum.order] at ho
  | number s m i =>
    rw [hr] at hT ho
    obtain ⟨r1, k, l, e1, e2, hl1, hl2, hkm⟩ := widen T s m i hr
    have hw : wholeOf T = Toward.down.cut s (k <<< l.toNat) (-l).toNat := by unfold wholeOf; rw [e1]; simp only [e2]; rfl
    have hint : (Datum.number s k l).integral .down = .number s (wholeOf T) 0 := by rw [hw]; rfl
    simp only [Datum.order, Option.some.injEq] at ho
    have hlt' := cmp_lt ho
    have fin : (s = false ∨ wholeOf T = 0) → wholeOf T < 1024 → ∃ r3, floatToFloatBits .f64 (FloatKind.f64.encode (.number s (wholeOf T) 0)) .f32 = some r3 ∧ floatToIntVal .f32 r3 .i64 = some (wholeOf T : Int) := by
      intro hs hq
      have h1 : (floatToFloatBits .f64 (FloatKind.f64.encode (.number s (wholeOf T) 0)) .f32).bind (fun r => floatToIntVal .f32 r .i64) = some (wholeOf T : Int) := by
        cases s
        · exact small_whole _ hq
        · rcases hs with h | h
          · cases h
          · rw [h]; exact small_zero
      obtain ⟨r3, h2, h3⟩ := Option.bind_eq_some_iff.1 h1
      exact ⟨r3, h2, h3⟩
    by_cases hm : m = 0
    · subst hm
      have hk0 : k = 0 := by rw [hkm]; simp
      have hw0 : wholeOf T = 0 := by rw [hw, hk0, Nat.zero_shiftLeft, cut_down_zero]
      obtain ⟨r3, h2, h3⟩ := fin (.inr hw0) (by omega)
      refine ⟨r1, s, k, l, r3, e1, e2, hint, h2, h3, ?_⟩
      by_cases hn0 : n = 0
      · subst hn0
        have hk2 : k2 = 0 := by rw [hkn]; simp
        rw [hk2] at hlt'
        cases s <;> simp [signed] at hlt'
      · omega
    · have hs : s = false := by rcases hT with h | h; exact h; exact absurd h hm
      subst hs
      have h4 : signed false m (i - min i p).toNat = ((m * 2 ^ (i - min i p).toNat : Nat) : Int) := by simp [signed, Nat.shiftLeft_eq]
      have h5 : signed false k2 (p - min i p).toNat = ((k2 * 2 ^ (p - min i p).toNat : Nat) : Int) := by simp [signed, Nat.shiftLeft_eq]
      rw [h4, h5] at hlt'
      have h6 : m * 2 ^ (i - min i p).toNat < n * 2 ^ (-min i p).toNat := by
        have : k2 * 2 ^ (p - min i p).toNat = n * 2 ^ (-min i p).toNat := by
          rw [hkn, Nat.mul_assoc, ← Nat.pow_add]
          congr 2
          omega
        omega
      have hq : wholeOf T < n := by
        rw [hw, cut_down_pos, hkm]
        by_cases hl0 : 0 ≤ l
        · rw [show (-l).toNat = 0 by omega, Nat.zero_min, Nat.pow_zero, Nat.div_one, Nat.shiftLeft_eq, Nat.mul_assoc, ← Nat.pow_add]
          rw [show (i - l).toNat + l.toNat = i.toNat by omega]
          have h7 : m * 2 ^ i.toNat * 2 ^ (-min i p).toNat < n * 2 ^ (-min i p).toNat := by
            rw [Nat.mul_assoc, ← Nat.pow_add, show i.toNat + (-min i p).toNat = (i - min i p).toNat by omega]
            exact h6
          exact Nat.lt_of_mul_lt_mul_right h7
        · rw [show l.toNat = 0 by omega, Nat.shiftLeft_zero]
          rcases Nat.le_total (-l).toNat ((m * 2 ^ (i - l).toNat).log2 + 2) with hc | hc
          · rw [Nat.min_eq_left hc, Nat.div_lt_iff_lt_mul (Nat.two_pow_pos _)]
            -- scale both sides by a common power
            have h7 : m * 2 ^ (i - l).toNat * 2 ^ (-min i p).toNat < n * 2 ^ (-l).toNat * 2 ^ (-min i p).toNat := by
              have e3 : m * 2 ^ (i - l).toNat * 2 ^ (-min i p).toNat = m * 2 ^ (i - min i p).toNat * 2 ^ (-l).toNat := by
                rw [Nat.mul_assoc, Nat.mul_assoc, ← Nat.pow_add, ← Nat.pow_add]
                congr 2
                omega
              have e4 : n * 2 ^ (-l).toNat * 2 ^ (-min i p).toNat = n * 2 ^ (-min i p).toNat * 2 ^ (-l).toNat := by
                rw [Nat.mul_assoc, Nat.mul_assoc, Nat.mul_comm (2 ^ (-l).toNat)]
              rw [e3, e4]
              exact Nat.mul_lt_mul_of_pos_right h6 (Nat.two_pow_pos _)
            exact Nat.lt_of_mul_lt_mul_right h7
          · rw [Nat.min_eq_right hc]
            have h8 : m * 2 ^ (i - l).toNat < 2 ^ ((m * 2 ^ (i - l).toNat).log2 + 2) := by
              have g := Nat.lt_log2_self (n := m * 2 ^ (i - l).toNat)
              rw [Nat.pow_succ] at g ⊢
              omega
            rw [Nat.div_eq_of_lt h8]
            rcases Nat.eq_zero_or_pos n with h0 | h0
            · subst h0; omega
            · exact h0
      obtain ⟨r3, h2, h3⟩ := fin (.inl rfl) (by omega)
      exact ⟨r1, false, k, l, r3, e1, e2, hint, h2, h3, hq⟩
end

section
open Go.RowKit Ieee

theorem log2_mul_pow {n : Nat} (j : Nat) (hn : n ≠ 0) : (n * 2 ^ j).log2 = n.log2 + j := by
  have h2 : n * 2 ^ j ≠ 0 := Nat.mul_ne_zero hn (Nat.ne_of_gt (Nat.two_pow_pos j))
  have a : n.log2 + j ≤ (n * 2 ^ j).log2 := by
    rw [Nat.le_log2 h2, Nat.pow_add]
    exact Nat.mul_le_mul_right _ (Nat.log2_self_le hn)
  have b : (n * 2 ^ j).log2 < n.log2 + j + 1 := by
    rw [Nat.log2_lt h2, show n.log2 + j + 1 = (n.log2 + 1) + j by omega, Nat.pow_add]
    exact Nat.mul_lt_mul_of_pos_right Nat.lt_log2_self (Nat.two_pow_pos j)
  omega
theorem cut_even (neg : Bool) (n drop g : Nat) (hg : g = min drop (n.log2 + 2)) : Toward.even.cut neg n drop = n / 2 ^ g + (decide (2 ^ g < 2 * (n % 2 ^ g)) || (2 ^ g == 2 * (n % 2 ^ g) && n / 2 ^ g % 2 == 1)).toNat := by
  unfold Toward.cut
  subst hg
  simp only [Nat.shiftLeft_eq, Nat.one_mul]
theorem cut_scale (neg : Bool) {n : Nat} (drop j : Nat) (hn : n ≠ 0) : Toward.even.cut neg (n * 2 ^ j) (drop + j) = Toward.even.cut neg n drop := by
  rw [cut_even neg (n * 2 ^ j) (drop + j) (min drop (n.log2 + 2) + j) (by rw [log2_mul_pow j hn]; omega), cut_even neg n drop _ rfl]
  generalize min drop (n.log2 + 2) = g
  have hp : 0 < 2 ^ j := Nat.two_pow_pos j
  rw [Nat.pow_add, Nat.mul_div_mul_right _ _ hp, Nat.mul_mod_mul_right]
  congr 3
  · rw [decide_eq_decide, ← Nat.mul_assoc]
    exact Nat.mul_lt_mul_right hp
  · congr 1
    rw [Bool.eq_iff_iff, beq_iff_eq, beq_iff_eq, ← Nat.mul_assoc]
    exact Nat.mul_right_cancel_iff hp
theorem cut_exact (neg : Bool) {n : Nat} (j drop : Nat) (hn : n ≠ 0) (h : drop ≤ j) : Toward.even.cut neg (n * 2 ^ j) drop = n * 2 ^ (j - drop) := by
  rw [cut_even neg (n * 2 ^ j) drop drop (by rw [log2_mul_pow j hn]; omega)]
  have e : n * 2 ^ j = n * 2 ^ (j - drop) * 2 ^ drop := by rw [Nat.mul_assoc, ← Nat.pow_add, Nat.sub_add_cancel h]
  have hp : 0 < 2 ^ drop := Nat.two_pow_pos drop
  rw [e, Nat.mul_div_cancel _ hp, Nat.mul_mod_left]
  have h1 : (2 ^ drop == 2 * 0) = false := by simp
  simp [h1]
/-- A number may be told with more digits further down. -/
theorem nearest_scale (f : Format) (s : Bool) (k j : Nat) (p : Int) : f.nearest s (k * 2 ^ j) (p - j) = f.nearest s k p := by
  by_cases hk : k = 0
  · subst hk; rw [Nat.zero_mul]; rfl
  have h2 : k * 2 ^ j ≠ 0 := Nat.mul_ne_zero hk (Nat.ne_of_gt (Nat.two_pow_pos j))
  unfold Format.nearest
  rw [if_neg hk, if_neg h2, log2_mul_pow j hk, show p - (j : Int) + ((k.log2 + j : Nat) : Int) - f.fractionBits = p + k.log2 - f.fractionBits by omega]
  generalize max (p + k.log2 - f.fractionBits) f.leastPlace = last
  have key : Toward.even.cut s ((k * 2 ^ j) <<< (p - j - last).toNat) (last - (p - j)).toNat = Toward.even.cut s (k <<< (p - last).toNat) (last - p).toNat := by
    simp only [Nat.shiftLeft_eq]
    by_cases h1 : last ≤ p - j
    · rw [show (last - (p - j)).toNat = 0 by omega, show (last - p).toNat = 0 by omega, cut_none, cut_none, Nat.mul_assoc, ← Nat.pow_add, show j + (p - j - last).toNat = (p - last).toNat by omega]
    · by_cases h3 : last ≤ p
      · rw [show (p - j - last).toNat = 0 by omega, show (last - p).toNat = 0 by omega, cut_none, Nat.pow_zero, Nat.mul_one, cut_exact s j _ hk (by omega), show j - (last - (p - j)).toNat = (p - last).toNat by omega]
      · rw [show (p - j - last).toNat = 0 by omega, show (p - last).toNat = 0 by omega, Nat.pow_zero, Nat.mul_one, Nat.mul_one, show (last - (p - j)).toNat = (last - p).toNat + j by omega, cut_scale s _ j hk]
  simp only [key]
theorem signed_pow (s : Bool) (m k : Nat) : signed s m k = (if s then -(m : Int) else (m : Int)) * 2 ^ k := by
  unfold signed
  cases s
  · simp only [Bool.false_eq_true, if_false, Nat.shiftLeft_eq]; push_cast; rfl
  · simp only [if_true, Nat.shiftLeft_eq]; push_cast; rw [Int.neg_mul]
/-- b stands for the whole number i. -/
def Val (b : Nat) (i : Int) : Prop := ∃ s m p, rd b = .number s m p ∧ ∀ base : Int, base ≤ p → base ≤ 0 → signed s m (p - base).toNat = i * 2 ^ (-base).toNat
theorem pow_pos' (k : Nat) : (0 : Int) < 2 ^ k := Int.pow_pos (by omega)
/-- One place is enough. -/
theorem val_of {b : Nat} {i : Int} {s : Bool} {m : Nat} {p base : Int} (h : rd b = .number s m p) (h1 : base ≤ p) (h2 : base ≤ 0) (he : signed s m (p - base).toNat = i * 2 ^ (-base).toNat) : Val b i := by
  refine ⟨s, m, p, h, fun c hc1 hc2 => ?_⟩
  rw [signed_pow] at he ⊢
  generalize (if s then -(m : Int) else (m : Int)) = z at he ⊢
  rcases Int.le_total base c with hbc | hcb
  · have e1 : (p - base).toNat = (p - c).toNat + (c - base).toNat := by omega
    have e2 : (-base).toNat = (-c).toNat + (c - base).toNat := by omega
    rw [e1, e2, Int.pow_add, Int.pow_add, ← Int.mul_assoc, ← Int.mul_assoc] at he
    exact Int.eq_of_mul_eq_mul_right (Int.ne_of_gt (pow_pos' _)) he
  · have e1 : (p - c).toNat = (p - base).toNat + (base - c).toNat := by omega
    have e2 : (-c).toNat = (-base).toNat + (base - c).toNat := by omega
    rw [e1, e2, Int.pow_add, Int.pow_add, ← Int.mul_assoc, ← Int.mul_assoc, he]
theorem Val.num {b : Nat} {i : Int} (h : Val b i) : ∃ s m p, rd b = .number s m p := by
  obtain ⟨s, m, p, h, _⟩ := h; exact ⟨s, m, p, h⟩
theorem val_sign {b : Nat} {i : Int} {s : Bool} {m : Nat} {p : Int} (h : Val b i) (hb : rd b = .number s m p) : (i < 0 → s = true) ∧ (0 < i → s = false) := by
  obtain ⟨s', m', p', h1, h2⟩ := h
  rw [hb] at h1
  cases h1
  have h3 := h2 (min p 0) (by omega) (by omega)
  rw [signed_pow] at h3
  have q1 := pow_pos' (p - min p 0).toNat
  have q2 := pow_pos' (-min p 0).toNat
  constructor
  · intro hi
    have hl : i * 2 ^ (-min p 0).toNat < 0 := Int.mul_neg_of_neg_of_pos hi q2
    cases s
    · exfalso
      rw [← h3] at hl
      have : (0 : Int) ≤ (if false = true then -(m : Int) else (m : Int)) * 2 ^ (p - min p 0).toNat := Int.mul_nonneg (by simp) (Int.le_of_lt q1)
      omega
    · rfl
  · intro hi
    have hl : 0 < i * 2 ^ (-min p 0).toNat := Int.mul_pos hi q2
    cases s
    · rfl
    · exfalso
      rw [← h3] at hl
      have : (if true = true then -(m : Int) else (m : Int)) * 2 ^ (p - min p 0).toNat ≤ 0 := Int.mul_nonpos_of_nonpos_of_nonneg (by simp) (Int.le_of_lt q1)
      omega
theorem ofInt_val {n : Int} (h1 : -8388608 < n) (h2 : n < 8388608) : Val (floatOfInt .f32 n) n ∧ ∃ m p, rd (floatOfInt .f32 n) = .number (decide (n < 0)) m p ∧ (m = 0 ∨ p + m.log2 ≤ 126) := by
  have hd : floatOfInt .f32 n = FloatKind.f32.format.nearest (decide (n < 0)) n.natAbs 0 := rfl
  by_cases h0 : n = 0
  · subst h0
    have hz : rd (floatOfInt .f32 0) = .number false 0 (-149) := by decide
    exact ⟨val_of (base := -149) hz (by omega) (by omega) (by decide), 0, -149, by rw [hz]; rfl, .inl rfl⟩
  · have hm : n.natAbs ≠ 0 := by omega
    have hl : n.natAbs.log2 ≤ 22 := log2_le (by omega)
    have hf : FloatKind.f32.format.fractionBits = 23 := rfl
    have hlp : FloatKind.f32.format.leastPlace = -149 := by decide
    obtain ⟨last, hlast⟩ : ∃ last, last = max ((0 : Int) + n.natAbs.log2 - FloatKind.f32.format.fractionBits) FloatKind.f32.format.leastPlace := ⟨_, rfl⟩
    have hll := hlast
    rw [hf, hlp] at hll
    have hle : last ≤ 0 := by omega
    have hub : n.natAbs * 2 ^ ((0 : Int) - last).toNat < 2 ^ 24 := by
      have a : n.natAbs < 2 ^ (n.natAbs.log2 + 1) := Nat.lt_log2_self
      have b : n.natAbs * 2 ^ ((0 : Int) - last).toNat < 2 ^ (n.natAbs.log2 + 1) * 2 ^ ((0 : Int) - last).toNat := Nat.mul_lt_mul_of_pos_right a (Nat.two_pow_pos _)
      rw [← Nat.pow_add] at b
      exact Nat.lt_of_lt_of_le b (Nat.pow_le_pow_right (by omega) (by omega))
    have hr : (last - FloatKind.f32.format.leastPlace).toNat * FloatKind.f32.format.binade + n.natAbs * 2 ^ ((0 : Int) - last).toNat < FloatKind.f32.format.infRung := by
      rw [f32_inf, f32_binade, hlp]
      have : (2 : Nat) ^ 24 = 16777216 := by decide
      omega
    have hx := nearest_exact FloatKind.f32.format (decide (n < 0)) n.natAbs 0 last hm hlast hle hr
    have hrd : rd (floatOfInt .f32 n) = .number (decide (n < 0)) (n.natAbs * 2 ^ ((0 : Int) - last).toNat) last := hx
    refine ⟨val_of (base := last) hrd (by omega) hle ?_, _, _, hrd, .inr (by have := log2_le (b := 23) hub; omega)⟩
    rw [signed_pow, show (last - last).toNat = 0 by omega, Int.pow_zero, Int.mul_one, show ((0 : Int) - last).toNat = (-last).toNat by omega]
    push_cast
    by_cases hn : n < 0
    · rw [decide_eq_true hn, if_pos rfl, ← Int.neg_mul]
      congr 1; omega
    · rw [decide_eq_false hn, if_neg (by simp)]
      congr 1; omega
theorem val_not_nan {b : Nat} {i : Int} (h : Val b i) : isNaN b = false := by
  obtain ⟨s, m, p, h1, _⟩ := h
  rw [isNaN_iff, h1]; rfl
theorem ofInt_canon (n : Int) : canon (floatOfInt .f32 n) = floatOfInt .f32 n := by
  refine canon_of_num ?_
  rw [isNaN_iff]
  have hd : floatOfInt .f32 n = FloatKind.f32.format.nearest (decide (n < 0)) n.natAbs 0 := rfl
  unfold rd
  rw [hd]
  rcases read_nearest FloatKind.f32.format (decide (n < 0)) n.natAbs 0 with ⟨k, l, h, _⟩ | h <;> rw [h] <;> rfl
/-- A sum of whole numbers, written. -/
theorem sum_whole {a c : Int} {s t : Bool} {m n : Nat} {p q : Int} (ha : ∀ base : Int, base ≤ p → base ≤ 0 → signed s m (p - base).toNat = a * 2 ^ (-base).toNat)
    (hc : ∀ base : Int, base ≤ q → base ≤ 0 → signed t n (q - base).toNat = c * 2 ^ (-base).toNat) (hz : a + c = 0 → (s && t) = false) :
    ((Datum.number s m p).sum (.number t n q)).map FloatKind.f32.format.write = some (floatOfInt .f32 (a + c)) := by
  -- both at one place
  have hg : ∀ base : Int, base ≤ p → base ≤ q → base ≤ 0 → signed s m (p - base).toNat + signed t n (q - base).toNat = (a + c) * 2 ^ (-base).toNat := fun base h1 h2 h3 => by
    rw [ha base h1 h3, hc base h2 h3, Int.add_mul]
  simp only [Datum.sum, Option.map_some]
  congr 1
  obtain ⟨base, hb⟩ : ∃ base, base = min p q := ⟨_, rfl⟩
  rw [← hb]
  obtain ⟨T, hT⟩ : ∃ T, T = signed s m (p - base).toNat + signed t n (q - base).toNat := ⟨_, rfl⟩
  rw [← hT]
  show FloatKind.f32.format.nearest _ _ _ = FloatKind.f32.format.nearest (decide (a + c < 0)) (a + c).natAbs 0
  -- at a place not above 0
  obtain ⟨b2, hb2⟩ : ∃ b2, b2 = min base 0 := ⟨_, rfl⟩
  have hT2 : T * 2 ^ (base - b2).toNat = (a + c) * 2 ^ (-b2).toNat := by
    rw [← hg b2 (by omega) (by omega) (by omega), hT, Int.add_mul, signed_pow, signed_pow, signed_pow, signed_pow, Int.mul_assoc, Int.mul_assoc, ← Int.pow_add, ← Int.pow_add, show (p - base).toNat + (base - b2).toNat = (p - b2).toNat by omega, show (q - base).toNat + (base - b2).toNat = (q - b2).toNat by omega]
  have hN : T.natAbs * 2 ^ (base - b2).toNat = (a + c).natAbs * 2 ^ (-b2).toNat := by
    have := congrArg Int.natAbs hT2
    rw [Int.natAbs_mul, Int.natAbs_mul, Int.natAbs_pow, Int.natAbs_pow] at this
    exact this
  have e1 := nearest_scale FloatKind.f32.format (if T = 0 then s && t else decide (T < 0)) T.natAbs (base - b2).toNat base
  rw [show base - ((base - b2).toNat : Int) = b2 by omega, hN] at e1
  have e2 := nearest_scale FloatKind.f32.format (if T = 0 then s && t else decide (T < 0)) (a + c).natAbs (-b2).toNat 0
  rw [show (0 : Int) - ((-b2).toNat : Int) = b2 by omega] at e2
  rw [← e1, e2]
  congr 1
  have q1 := pow_pos' (base - b2).toNat
  have q2 := pow_pos' (-b2).toNat
  by_cases h0 : T = 0
  · have hac : a + c = 0 := by
      rw [h0, Int.zero_mul] at hT2
      rcases Int.mul_eq_zero.1 hT2.symm with h | h
      · exact h
      · omega
    rw [if_pos h0, hz hac, hac]; rfl
  · rw [if_neg h0]
    have hiff : T < 0 ↔ a + c < 0 := by
      constructor
      · intro h
        have : (a + c) * 2 ^ (-b2).toNat < 0 := by rw [← hT2]; exact Int.mul_neg_of_neg_of_pos h q1
        by_cases hh : 0 ≤ a + c
        · have := Int.mul_nonneg hh (Int.le_of_lt q2); omega
        · omega
      · intro h
        have : T * 2 ^ (base - b2).toNat < 0 := by rw [hT2]; exact Int.mul_neg_of_neg_of_pos h q2
        by_cases hh : 0 ≤ T
        · have := Int.mul_nonneg hh (Int.le_of_lt q1); omega
        · omega
    exact decide_eq_decide.2 hiff
theorem fop_add_whole {x y : Nat} {i j : Int} (hx : Val x i) (hy : Val y j) (hz : i + j = 0 → ∀ s m p t n q, rd x = .number s m p → rd y = .number t n q → (s && t) = false) : fop .add x y = floatOfInt .f32 (i + j) := by
  obtain ⟨s, m, p, h1, h2⟩ := hx
  obtain ⟨t, n, q, h3, h4⟩ := hy
  have e : floatBits .add .f32 x y = ((rd x).sum (rd y)).map FloatKind.f32.format.write := rfl
  unfold fop
  rw [e, h1, h3, sum_whole h2 h4 (fun h => hz h _ _ _ _ _ _ h1 h3), Option.map_some, Option.getD_some, ofInt_canon]
theorem fop_sub_whole {x y : Nat} {i j : Int} (hx : Val x i) (hy : Val y j) (hz : i - j = 0 → ∀ s m p t n q, rd x = .number s m p → rd y = .number t n q → (s && !t) = false) : fop .sub x y = floatOfInt .f32 (i - j) := by
  obtain ⟨s, m, p, h1, h2⟩ := hx
  obtain ⟨t, n, q, h3, h4⟩ := hy
  have e : floatBits .sub .f32 x y = ((rd x).sum (rd y).opposite).map FloatKind.f32.format.write := rfl
  unfold fop
  rw [e, h1, h3]
  have h5 : ∀ base : Int, base ≤ q → base ≤ 0 → signed (!t) n (q - base).toNat = (-j) * 2 ^ (-base).toNat := fun base a b => by rw [signed_not, h4 base a b, Int.neg_mul]
  have := sum_whole h2 h5 (fun h => hz (by omega) _ _ _ _ _ _ h1 h3)
  rw [show i + -j = i - j by omega] at this
  rw [show (Datum.number t n q).opposite = .number (!t) n q from rfl, this, Option.map_some, Option.getD_some, ofInt_canon]
/-- From a whole number another one is taken: exactly. -/
theorem sub_ofInt {x i : Int} {X : Nat} (h1 : -8388608 < x) (h2 : x < 8388608) (hX : Val X i) : fop .sub (floatOfInt .f32 x) X = floatOfInt .f32 (x - i) := by
  obtain ⟨hv, m0, p0, hr, _⟩ := ofInt_val h1 h2
  refine fop_sub_whole hv hX (fun h s m p t n q e1 e2 => ?_)
  rw [hr] at e1
  cases e1
  by_cases hx : x < 0
  · have := (val_sign hX e2).1 (by omega)
    rw [this]; simp
  · rw [decide_eq_false hx]; rfl
theorem add_ofInt {d i : Int} {X : Nat} (h1 : -8388608 < d) (h2 : d < 8388608) (hX : Val X i) : fop .add X (floatOfInt .f32 d) = floatOfInt .f32 (i + d) := by
  obtain ⟨hv, m0, p0, hr, _⟩ := ofInt_val h1 h2
  refine fop_add_whole hX hv (fun h s m p t n q e1 e2 => ?_)
  rw [hr] at e2
  cases e2
  by_cases hd : d < 0
  · have := (val_sign hX e1).2 (by omega)
    rw [this]; rfl
  · rw [decide_eq_false hd, Bool.and_false]
/-- What is not too great is a number. -/
theorem finite_write (s : Bool) (m : Nat) (p : Int) (h : m = 0 ∨ p + m.log2 ≤ 126) : ∃ k l, rd (FloatKind.f32.format.nearest s m p) = .number s k l := by
  by_cases hm : m = 0
  · subst hm; exact ⟨_, _, nearest_zero _ _ _⟩
  have hp : p + m.log2 ≤ 126 := by rcases h with h | h; · exact absurd h hm
                                   · exact h
  have hf : FloatKind.f32.format.fractionBits = 23 := rfl
  have hlp : FloatKind.f32.format.leastPlace = -149 := by decide
  unfold rd
  unfold Format.nearest
  rw [if_neg hm, hf, hlp, f32_inf, f32_binade]
  obtain ⟨last, hlast⟩ : ∃ last, last = max (p + m.log2 - (23 : Nat)) (-149) := ⟨_, rfl⟩
  simp only [← hlast]
  have hkept : Toward.even.cut s (m <<< (p - last).toNat) (last - p).toNat ≤ 16777216 := by
    rw [Nat.shiftLeft_eq]
    have hub : m < 2 ^ (m.log2 + 1) := Nat.lt_log2_self
    have e24 : (2 : Nat) ^ 24 = 16777216 := by decide
    by_cases hd : last ≤ p
    · rw [show (last - p).toNat = 0 by omega, cut_none]
      have b : m * 2 ^ (p - last).toNat < 2 ^ (m.log2 + 1) * 2 ^ (p - last).toNat := Nat.mul_lt_mul_of_pos_right hub (Nat.two_pow_pos _)
      rw [← Nat.pow_add] at b
      have := Nat.lt_of_lt_of_le b (Nat.pow_le_pow_right (by omega) (show m.log2 + 1 + (p - last).toNat ≤ 24 by omega))
      omega
    · rw [show (p - last).toNat = 0 by omega, Nat.pow_zero, Nat.mul_one, cut_even s m _ _ rfl]
      generalize hg : min (last - p).toNat (m.log2 + 2) = g
      have hlow : m / 2 ^ g < 2 ^ 24 := by
        rw [Nat.div_lt_iff_lt_mul (Nat.two_pow_pos g), ← Nat.pow_add]
        exact Nat.lt_of_lt_of_le hub (Nat.pow_le_pow_right (by omega) (by omega))
      have hb : ∀ b : Bool, b.toNat ≤ 1 := by decide
      have := hb (decide (2 ^ g < 2 * (m % 2 ^ g)) || (2 ^ g == 2 * (m % 2 ^ g) && m / 2 ^ g % 2 == 1))
      omega
  generalize Toward.even.cut s (m <<< (p - last).toNat) (last - p).toNat = K at hkept
  rw [Nat.min_eq_left (by omega)]
  have hsw : (last - -149).toNat * 8388608 + K < FloatKind.f32.format.signWeight := by
    have : FloatKind.f32.format.signWeight = 2147483648 := by decide
    omega
  rw [read_word _ s _ hsw, f32_inf, f32_binade]
  split
  · exact ⟨_, _, rfl⟩
  · rw [if_pos (by omega)]
    exact ⟨_, _, rfl⟩
end

section
open Go.RowKit Ieee

/-- What is kept of a number: at most two to its length. -/
theorem kept_le (s : Bool) {m : Nat} (p last : Int) (hm : m ≠ 0) : (p + m.log2 + 1 < last → Toward.even.cut s (m <<< (p - last).toNat) (last - p).toNat = 0) ∧ (last ≤ p + m.log2 + 1 → Toward.even.cut s (m <<< (p - last).toNat) (last - p).toNat ≤ 2 ^ (p + m.log2 + 1 - last).toNat) := by
  have hub : m < 2 ^ (m.log2 + 1) := Nat.lt_log2_self
  simp only [Nat.shiftLeft_eq]
  constructor
  · intro h
    rw [show (p - last).toNat = 0 by omega, Nat.pow_zero, Nat.mul_one, cut_even s m _ _ rfl, show min (last - p).toNat (m.log2 + 2) = m.log2 + 2 by omega]
    have h2 : (2 : Nat) ^ (m.log2 + 2) = 2 * 2 ^ (m.log2 + 1) := by rw [Nat.pow_succ]; omega
    have hlt : m < 2 ^ (m.log2 + 2) := by omega
    rw [Nat.div_eq_of_lt hlt, Nat.mod_eq_of_lt hlt]
    have a : decide (2 ^ (m.log2 + 2) < 2 * m) = false := decide_eq_false (by omega)
    rw [a]; simp
  · intro h
    by_cases hd : last ≤ p
    · rw [show (last - p).toNat = 0 by omega, cut_none]
      have b : m * 2 ^ (p - last).toNat < 2 ^ (m.log2 + 1) * 2 ^ (p - last).toNat := Nat.mul_lt_mul_of_pos_right hub (Nat.two_pow_pos _)
      rw [← Nat.pow_add, show m.log2 + 1 + (p - last).toNat = (p + m.log2 + 1 - last).toNat by omega] at b
      omega
    · rw [show (p - last).toNat = 0 by omega, Nat.pow_zero, Nat.mul_one, cut_even s m _ _ rfl, show min (last - p).toNat (m.log2 + 2) = (last - p).toNat by omega]
      have hlow : m / 2 ^ (last - p).toNat < 2 ^ (p + m.log2 + 1 - last).toNat := by
        rw [Nat.div_lt_iff_lt_mul (Nat.two_pow_pos _), ← Nat.pow_add, show (p + m.log2 + 1 - last).toNat + (last - p).toNat = m.log2 + 1 by omega]
        exact hub
      have hb : ∀ b : Bool, b.toNat ≤ 1 := by decide
      have := hb (decide (2 ^ (last - p).toNat < 2 * (m % 2 ^ (last - p).toNat)) || (2 ^ (last - p).toNat == 2 * (m % 2 ^ (last - p).toNat) && m / 2 ^ (last - p).toNat % 2 == 1))
      omega
theorem log2_of_le {k e : Nat} (hk : k ≠ 0) (h : k ≤ 2 ^ e) : k.log2 ≤ e := by
  have := Nat.log2_lt hk |>.2 (show k < 2 ^ (e + 1) by rw [Nat.pow_succ]; omega)
  omega
/-- A number that is written and read: at most twice as great. -/
theorem write_bound (f : Format) (hi : f.binade ≤ f.infRung) {s t : Bool} {m k : Nat} {p l : Int} (hm : m ≠ 0) (h : f.read (f.nearest s m p) = .number t k l) : k = 0 ∨ l + k.log2 ≤ p + m.log2 + 1 := by
  unfold Format.nearest at h
  rw [if_neg hm] at h
  obtain ⟨last, hlast⟩ : ∃ last, last = max (p + m.log2 - f.fractionBits) f.leastPlace := ⟨_, rfl⟩
  simp only [← hlast] at h
  obtain ⟨k1, k2⟩ := kept_le s p last hm
  generalize Toward.even.cut s (m <<< (p - last).toNat) (last - p).toNat = K at h k1 k2
  have hbe : f.binade = 2 ^ f.fractionBits := rfl
  have hb0 : 0 < f.binade := Nat.two_pow_pos _
  have hlt := f.infRung_lt
  obtain ⟨A, hA⟩ : ∃ A, A = (last - f.leastPlace).toNat * f.binade + K := ⟨_, rfl⟩
  rw [← hA] at h
  obtain ⟨R, hR⟩ : ∃ R, R = min A f.infRung := ⟨_, rfl⟩
  rw [← hR, read_word f s _ (by omega)] at h
  by_cases c1 : R < f.binade
  · rw [if_pos c1] at h
    simp only [Datum.number.injEq] at h
    obtain ⟨_, rfl, rfl⟩ := h
    have hRA : R = A := by omega
    have hz : (last - f.leastPlace).toNat = 0 := by
      rcases Nat.eq_zero_or_pos (last - f.leastPlace).toNat with h0 | h0
      · exact h0
      · have := Nat.le_mul_of_pos_left f.binade h0; omega
    rw [hz, Nat.zero_mul, Nat.zero_add] at hA
    by_cases hk : R = 0
    · exact .inl hk
    · right
      by_cases hE : p + m.log2 + 1 < last
      · have := k1 hE; omega
      · have := log2_of_le hk (by rw [hRA, hA]; exact k2 (by omega))
        omega
  · rw [if_neg c1] at h
    by_cases c2 : R < f.infRung
    · rw [if_pos c2] at h
      simp only [Datum.number.injEq] at h
      obtain ⟨_, rfl, rfl⟩ := h
      right
      have hRA : R = A := by omega
      have hmod : R % f.binade < f.binade := Nat.mod_lt _ hb0
      have hlog : (f.binade + R % f.binade).log2 = f.fractionBits := by
        have a : f.fractionBits ≤ (f.binade + R % f.binade).log2 := by rw [Nat.le_log2 (by omega), ← hbe]; omega
        have b : (f.binade + R % f.binade).log2 < f.fractionBits + 1 := by rw [Nat.log2_lt (by omega), Nat.pow_succ, ← hbe]; omega
        omega
      rw [hlog]
      have hE : last ≤ p + m.log2 + 1 := by
        rcases Int.lt_or_le (p + m.log2 + 1) last with hE | hE
        · exfalso
          have hK := k1 hE
          have : (last - f.leastPlace).toNat = 0 := by omega
          rw [this, hK] at hA
          omega
        · exact hE
      have hK := k2 hE
      have hdiv : R / f.binade * f.binade ≤ R := Nat.div_mul_le_self _ _
      by_cases hg : f.leastPlace < last
      · have hE2 : (p + m.log2 + 1 - last).toNat = f.fractionBits + 1 := by omega
        rw [hE2, Nat.pow_succ, ← hbe] at hK
        have : R / f.binade < (last - f.leastPlace).toNat + 3 := by
          rw [Nat.div_lt_iff_lt_mul hb0, hRA, hA, Nat.add_mul]
          omega
        omega
      · have hz : (last - f.leastPlace).toNat = 0 := by omega
        rw [hz, Nat.zero_mul, Nat.zero_add] at hA
        have hE3 : (p + m.log2 + 1 - last).toNat ≤ f.fractionBits + 1 := by omega
        have hfE : f.fractionBits ≤ (p + m.log2 + 1 - last).toNat := by
          rcases Nat.lt_or_ge (p + m.log2 + 1 - last).toNat f.fractionBits with h1 | h1
          · exfalso
            have := Nat.pow_lt_pow_right (show 1 < 2 by omega) h1
            omega
          · exact h1
        rcases (by omega : (p + m.log2 + 1 - last).toNat = f.fractionBits ∨ (p + m.log2 + 1 - last).toNat = f.fractionBits + 1) with h1 | h1
        · rw [h1, ← hbe] at hK
          have : R = f.binade := by omega
          rw [this, Nat.div_self hb0]
          omega
        · rw [h1, Nat.pow_succ, ← hbe] at hK
          have : R / f.binade < 3 := by rw [Nat.div_lt_iff_lt_mul hb0]; omega
          omega
    · rw [if_neg c2] at h
      split at h <;> cases h
/-- What is not too great for a format is a number of it. -/
theorem finite_gen (f : Format) (s : Bool) (m : Nat) (p : Int) (hi : f.binade ≤ f.infRung) (h : m = 0 ∨ (p + m.log2 - f.fractionBits - f.leastPlace).toNat * f.binade + 2 * f.binade < f.infRung) : ∃ k l, f.read (f.nearest s m p) = .number s k l := by
  by_cases hm : m = 0
  · subst hm; exact ⟨_, _, nearest_zero _ _ _⟩
  have h : (p + m.log2 - f.fractionBits - f.leastPlace).toNat * f.binade + 2 * f.binade < f.infRung := by
    rcases h with h | h
    · exact absurd h hm
    · exact h
  unfold Format.nearest
  rw [if_neg hm]
  obtain ⟨last, hlast⟩ : ∃ last, last = max (p + m.log2 - f.fractionBits) f.leastPlace := ⟨_, rfl⟩
  simp only [← hlast]
  obtain ⟨k1, k2⟩ := kept_le s p last hm
  generalize Toward.even.cut s (m <<< (p - last).toNat) (last - p).toNat = K at k1 k2
  have hbe : f.binade = 2 ^ f.fractionBits := rfl
  have hb0 : 0 < f.binade := Nat.two_pow_pos _
  have hK : K ≤ 2 * f.binade := by
    rcases Int.lt_or_le (p + m.log2 + 1) last with hE | hE
    · rw [k1 hE]; omega
    · have h1 := k2 hE
      have h2 : (2 : Nat) ^ (p + m.log2 + 1 - last).toNat ≤ 2 ^ (f.fractionBits + 1) := Nat.pow_le_pow_right (by omega) (by omega)
      rw [Nat.pow_succ, ← hbe] at h2
      omega
  have hL : (last - f.leastPlace).toNat = (p + m.log2 - f.fractionBits - f.leastPlace).toNat := by omega
  rw [hL]
  generalize (p + m.log2 - f.fractionBits - f.leastPlace).toNat * f.binade = Q at h
  have hlt := f.infRung_lt
  rw [Nat.min_eq_left (by omega), read_word f s _ (by omega)]
  split
  · exact ⟨_, _, rfl⟩
  · rw [if_pos (by omega)]
    exact ⟨_, _, rfl⟩
theorem narrow_ok {x : Nat} {s : Bool} {k : Nat} {l : Int} (h : FloatKind.f64.decode x = .number s k l) (hb : k = 0 ∨ l + k.log2 ≤ 126) : ∃ r, floatToFloatBits .f64 x .f32 = some r ∧ ∃ k' l', rd r = .number s k' l' := by
  obtain ⟨k', l', hr⟩ := finite_write s k l hb
  refine ⟨FloatKind.f32.encode (.number s k l), ?_, k', l', hr⟩
  unfold floatToFloatBits
  rw [if_neg (by decide), h]
  have hr2 : FloatKind.f32.decode (FloatKind.f32.encode (.number s k l)) = .number s k' l' := hr
  simp only [hr2]
  rfl
theorem abs_bits (r : Nat) : (bits .andNot .u64 (r : Int) 9223372036854775808).toNat = r % 9223372036854775808 := by
  have hc : ~~~(BitVec.ofInt 64 9223372036854775808) = BitVec.ofNat 64 (2 ^ 63 - 1) := by decide
  have hx : ((BitVec.ofInt 64 (r : Int)) &&& ~~~(BitVec.ofInt 64 9223372036854775808)).toNat = r % 9223372036854775808 := by
    rw [hc, BitVec.toNat_and, BitVec.toNat_ofNat, BitVec.ofInt_natCast, BitVec.toNat_ofNat, Nat.mod_eq_of_lt (show 2 ^ 63 - 1 < 2 ^ 64 by decide), Nat.and_two_pow_sub_one_eq_mod]
    omega
  have hw : bits .andNot .u64 (r : Int) 9223372036854775808 = IntKind.u64.wrap (((BitVec.ofInt 64 (r : Int)) &&& ~~~(BitVec.ofInt 64 9223372036854775808)).toNat : Int) := rfl
  rw [hw, hx]
  have : IntKind.u64.wrap ((r % 9223372036854775808 : Nat) : Int) = ((r % 9223372036854775808 : Nat) : Int) := by
    show ((r % 9223372036854775808 : Nat) : Int) % 18446744073709551616 = _
    omega
  rw [this]; rfl
theorem read_abs {r : Nat} {s : Bool} {k : Nat} {l : Int} (h : FloatKind.f64.decode r = .number s k l) : FloatKind.f64.decode (r % 9223372036854775808) = .number false k l := by
  have hs : FloatKind.f64.format.signWeight = 9223372036854775808 := by decide
  unfold FloatKind.decode Format.read at h ⊢
  rw [hs] at h ⊢
  simp only [Nat.mod_mod] at h ⊢
  have hn : (r % 9223372036854775808 / 9223372036854775808 % 2 == 1) = false := by rw [Nat.div_eq_of_lt (Nat.mod_lt _ (by omega))]; rfl
  rw [hn]
  split at h
  · rename_i c; rw [if_pos c]; cases h; rfl
  · rename_i c
    rw [if_neg c]
    split at h
    · rename_i c2; rw [if_pos c2]; cases h; rfl
    · split at h <;> cases h
/-- The magnitude of a single (through doubles, behind Clean). -/
def absF (b : Nat) : Nat := canon (((floatToFloatBits .f32 b .f64).bind fun r1 => floatToFloatBits .f64 (bits .andNot .u64 r1 9223372036854775808).toNat .f32).getD 0)
theorem abs_ok {b : Nat} {s : Bool} {m : Nat} {i : Int} (h : rd b = .number s m i) (hb : m = 0 ∨ i + m.log2 ≤ 126) : ∃ r1 r3, floatToFloatBits .f32 b .f64 = some r1 ∧ floatToFloatBits .f64 (bits .andNot .u64 r1 9223372036854775808).toNat .f32 = some r3 ∧ canon r3 = absF b ∧ ∃ k l, rd (absF b) = .number false k l := by
  obtain ⟨r1, k, l, e1, e2, e3, _, e5⟩ := widen b s m i h
  have e6 := read_abs e2
  rw [← abs_bits] at e6
  have hk : k = 0 ∨ l + k.log2 ≤ 126 := by
    rcases hb with h0 | h0
    · left; rw [e5, h0, Nat.zero_mul]
    · by_cases hm : m = 0
      · left; rw [e5, hm, Nat.zero_mul]
      · right; rw [e5, log2_mul_pow _ hm]; omega
  obtain ⟨r3, e7, k', l', e8⟩ := narrow_ok e6 hk
  have hc : canon r3 = r3 := canon_of_num (by rw [isNaN_iff, e8]; rfl)
  have ha : absF b = r3 := by unfold absF; rw [e1, Option.bind_some, e7, Option.getD_some, hc]
  exact ⟨r1, r3, e1, e7, by rw [ha, hc], k', l', by rw [ha]; exact e8⟩
theorem rootFrom_le (n todo root : Nat) (h : root * root ≤ n) : Datum.rootFrom n todo root * Datum.rootFrom n todo root ≤ n := by
  induction todo generalizing root with
  | zero => exact h
  | succ t ih =>
    unfold Datum.rootFrom
    apply ih
    split
    · assumption
    · exact h
/-- The square root of a single (through doubles, behind Clean). -/
def rootF (b : Nat) : Nat := canon (((floatToFloatBits .f32 b .f64).bind fun r1 => (FloatKind.f64.format.sqrt r1).bind fun r2 => floatToFloatBits .f64 r2 .f32).getD 0)
theorem root_ok {b : Nat} (h : (∃ m i, rd b = .number false m i) ∨ rd b = .infinity false) : ∃ r1 r2 r3, floatToFloatBits .f32 b .f64 = some r1 ∧ FloatKind.f64.format.sqrt r1 = some r2 ∧ floatToFloatBits .f64 r2 .f32 = some r3 ∧ canon r3 = rootF b ∧ isNaN (rootF b) = false := by
  rcases h with ⟨m, i, h⟩ | h
  · obtain ⟨r1, k, l, e1, e2, e3, e4, e5⟩ := widen b false m i h
    obtain ⟨hm1, hm2, hm3⟩ := read_bd h
    have hkl : k = 0 ∨ l + k.log2 ≤ 127 := by
      by_cases hm : m = 0
      · left; rw [e5, hm, Nat.zero_mul]
      · right
        have : m.log2 ≤ 23 := log2_le (by omega)
        rw [e5, log2_mul_pow _ hm]; omega
    have hd : ∃ M P, Datum.root 54 (.number false k l) = some (.number false M P) ∧ (M = 0 ∨ P + M.log2 ≤ 66) := by
      by_cases hk : k = 0
      · exact ⟨0, l, by rw [hk]; rfl, .inl rfl⟩
      · have hkl2 : l + k.log2 ≤ 127 := by rcases hkl with h | h; · exact absurd h hk
                                           · exact h
        simp only [Datum.root, if_neg hk, Bool.false_eq_true, if_false]
        obtain ⟨more, hmore⟩ : ∃ more, more = 2 * 54 - k.log2 + ((l - (2 * 54 - k.log2 : Nat)) % 2).toNat := ⟨_, rfl⟩
        rw [← hmore]
        have hpar : (l - (more : Int)) % 2 = 0 := by omega
        refine ⟨_, _, rfl, ?_⟩
        rw [Nat.shiftLeft_eq]
        obtain ⟨w, hw⟩ : ∃ w, w = Datum.rootFrom (k * 2 ^ more) ((k * 2 ^ more).log2 / 2 + 1) 0 := ⟨_, rfl⟩
        have hle : w * w ≤ k * 2 ^ more := by rw [hw]; exact rootFrom_le _ _ 0 (by omega)
        rw [← hw]
        have hbit : ∀ b : Bool, b.toNat ≤ 1 := by decide
        have hb1 := hbit (w * w != k * 2 ^ more)
        generalize (w * w != k * 2 ^ more).toNat = c at hb1
        by_cases hw0 : w = 0
        · right
          have : (2 * w + c).log2 ≤ 0 := log2_le (by omega)
          omega
        · right
          have h1 : 2 ^ w.log2 ≤ w := Nat.log2_self_le hw0
          have h2 : 2 ^ (2 * w.log2) ≤ k * 2 ^ more := by
            have := Nat.mul_le_mul h1 h1
            rw [← Nat.pow_add] at this
            rw [show 2 * w.log2 = w.log2 + w.log2 by omega]
            omega
          have h3 : 2 * w.log2 ≤ k.log2 + more := by
            rw [← log2_mul_pow more hk]
            exact (Nat.le_log2 (Nat.mul_ne_zero hk (Nat.ne_of_gt (Nat.two_pow_pos more)))).2 h2
          have h4 : (2 * w + c).log2 ≤ w.log2 + 1 := by
            have : w < 2 ^ (w.log2 + 1) := Nat.lt_log2_self
            refine log2_le ?_
            rw [Nat.pow_succ]; omega
          omega
    obtain ⟨M, P, hd1, hd2⟩ := hd
    have hsq : FloatKind.f64.format.sqrt r1 = some (FloatKind.f64.format.nearest false M P) := by
      show ((FloatKind.f64.format.read r1).root (52 + 2)).map FloatKind.f64.format.write = _
      have e2' : FloatKind.f64.format.read r1 = .number false k l := e2
      rw [e2', hd1]; rfl
    have hi64 : FloatKind.f64.format.binade ≤ FloatKind.f64.format.infRung := by rw [f64_binade, f64_inf]; decide
    obtain ⟨k2, l2, hr2⟩ := finite_gen FloatKind.f64.format false M P hi64 (by
      rcases hd2 with h0 | h0
      · exact .inl h0
      · right
        rw [f64_binade, f64_inf, f64_least, f64_frac]
        have : (P + M.log2 - (52 : Nat) - -1074).toNat ≤ 1090 := by omega
        have := Nat.mul_le_mul_right 4503599627370496 this
        omega)
    have hb2 : k2 = 0 ∨ l2 + k2.log2 ≤ 126 := by
      rcases hd2 with h0 | h0
      · left
        rw [h0] at hr2
        have := nearest_zero FloatKind.f64.format false P
        rw [this] at hr2
        cases hr2; rfl
      · by_cases hM : M = 0
        · left
          rw [hM] at hr2
          have := nearest_zero FloatKind.f64.format false P
          rw [this] at hr2
          cases hr2; rfl
        · rcases write_bound FloatKind.f64.format hi64 hM hr2 with h1 | h1
          · exact .inl h1
          · right; omega
    obtain ⟨r3, e7, k', l', e8⟩ := narrow_ok (x := FloatKind.f64.format.nearest false M P) hr2 hb2
    have hc : canon r3 = r3 := canon_of_num (by rw [isNaN_iff, e8]; rfl)
    have ha : rootF b = r3 := by unfold rootF; rw [e1, Option.bind_some, hsq, Option.bind_some, e7, Option.getD_some, hc]
    exact ⟨r1, _, r3, e1, hsq, e7, by rw [ha, hc], by rw [ha, isNaN_iff, e8]; rfl⟩
  · have e1 : floatToFloatBits .f32 b .f64 = some (FloatKind.f64.encode (.infinity false)) := by
      have hd : FloatKind.f32.decode b = .infinity false := h
      unfold floatToFloatBits
      rw [if_neg (by decide), hd]
    have e2 : FloatKind.f64.format.sqrt (FloatKind.f64.encode (.infinity false)) = some (FloatKind.f64.encode (.infinity false)) := by decide
    have e3 : floatToFloatBits .f64 (FloatKind.f64.encode (.infinity false)) .f32 = some 2139095040 := by decide
    have hc : canon 2139095040 = 2139095040 := by decide
    have ha : rootF b = 2139095040 := by unfold rootF; rw [e1, Option.bind_some, e2, Option.bind_some, e3, Option.getD_some, hc]
    exact ⟨_, _, _, e1, e2, e3, by rw [ha, hc], by rw [ha]; decide⟩
end
end Go.Proofs.YticekgnmiaidjaaGreatDoor
