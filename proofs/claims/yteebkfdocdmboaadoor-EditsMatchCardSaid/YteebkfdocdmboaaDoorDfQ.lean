/- Shares of dissolves: a quotient of small whole numbers. No program in sight. -/
import Derived.Test.YteebkfdocdmboaaDoorDbl3
namespace Go.Proofs.YteebkfdocdmboaaDoor
open Go.RowKit Ieee

theorem ofInt_log {n : Nat} (h1 : 1 ≤ n) (h2 : n < 8388608) : ∃ m p, rd (floatOfInt .f32 (n : Int)) = .number false m p ∧ m ≠ 0 ∧ p + (m.log2 : Int) = n.log2 := by
  obtain ⟨⟨s, m, p, hr, hv⟩, m', p', hr', _⟩ := ofInt_val (n := (n : Int)) (by omega) (by omega)
  rw [decide_eq_false (by omega)] at hr'
  rw [hr] at hr'
  injection hr' with e1 e2 e3
  subst e1
  have e := hv (min p 0) (by omega) (by omega)
  rw [signed_pow, if_neg (by simp)] at e
  have en : m * 2 ^ (p - min p 0).toNat = n * 2 ^ (-min p 0).toNat := by exact_mod_cast e
  have hm : m ≠ 0 := by
    rintro rfl
    rw [Nat.zero_mul] at en
    have : n * 2 ^ (-min p 0).toNat ≠ 0 := Nat.mul_ne_zero (by omega) (Nat.ne_of_gt (Nat.two_pow_pos _))
    omega
  have hl : (m * 2 ^ (p - min p 0).toNat).log2 = (n * 2 ^ (-min p 0).toNat).log2 := by rw [en]
  rw [log2_mul_pow _ hm, log2_mul_pow _ (by omega)] at hl
  exact ⟨m, p, hr, hm, by omega⟩
/-- A quotient of two small whole numbers by way of doubles. -/
theorem share_dbl {a b : Nat} (a1 : 1 ≤ a) (a2 : a < 8388608) (b1 : 1 ≤ b) (b2 : b < 8388608) :
    (∃ r1 r2 r3, floatToFloatBits .f32 (floatOfInt .f32 (a : Int)) .f64 = some r1 ∧ floatToFloatBits .f32 (floatOfInt .f32 (b : Int)) .f64 = some r2 ∧ floatBits .quo .f64 r1 r2 = some r3 ∧ floatToFloatBits .f64 r3 .f32 = some (fop .quo (floatOfInt .f32 (a : Int)) (floatOfInt .f32 (b : Int)))) ∧
    ∃ k l, rd (fop .quo (floatOfInt .f32 (a : Int)) (floatOfInt .f32 (b : Int))) = .number false k l := by
  obtain ⟨m, i, ea, hm, la⟩ := ofInt_log a1 a2
  obtain ⟨n, j, eb, hn, lb⟩ := ofInt_log b1 b2
  have l1 : a.log2 ≤ 22 := log2_le (by omega)
  have l2 : b.log2 ≤ 22 := log2_le (by omega)
  obtain ⟨h1, _, h3⟩ := quo_dbl ea eb hm hn (by omega) (by omega)
  exact ⟨h1, h3⟩
theorem fop_lt (op : BinOp) {x y : Nat} {s m i : _} (h : rd (fop op x y) = .number s m i) (hop : op = .add ∨ op = .sub ∨ op = .mul ∨ op = .quo) : fop op x y < 4294967296 := by
  have hw : ∀ d : Datum, d.isNaN = false → FloatKind.f32.format.write d < 4294967296 := by
    intro d hd
    have hs : FloatKind.f32.format.signWeight = 2147483648 := by decide
    have hi := f32_inf
    have word_lt : ∀ (s : Bool) (r : Nat), r ≤ FloatKind.f32.format.infRung → FloatKind.f32.format.word s r < 4294967296 := by
      intro s r hr
      unfold Format.word
      rw [hs]
      rw [hi] at hr
      split <;> omega
    cases d with
    | nan s f => simp [Datum.isNaN] at hd
    | infinity s => exact word_lt s _ (Nat.le_refl _)
    | number s m p =>
      show FloatKind.f32.format.nearest s m p < _
      unfold Format.nearest
      split
      · exact word_lt s 0 (Nat.zero_le _)
      · exact word_lt s _ (Nat.min_le_right _ _)
  have hc : ∀ b, b < 4294967296 → canon b < 4294967296 := by
    intro b hb
    unfold canon
    split
    · decide
    · exact hb
  unfold fop
  cases hf : floatBits op .f32 x y with
  | none => decide
  | some r =>
    show canon r < _
    refine hc r ?_
    have : ∃ d : Datum, d.isNaN = false ∧ r = FloatKind.f32.format.write d := by
      rcases hop with rfl | rfl | rfl | rfl
      · rw [bits_add] at hf; obtain ⟨d, h1, h2⟩ := map_some hf; exact ⟨d, Bool.eq_false_iff.2 fun h => sum_not_nan h1 (by cases d <;> simp_all [Datum.isNaN]), h2⟩
      · rw [bits_sub] at hf; obtain ⟨d, h1, h2⟩ := map_some hf; exact ⟨d, Bool.eq_false_iff.2 fun h => sum_not_nan h1 (by cases d <;> simp_all [Datum.isNaN]), h2⟩
      · rw [bits_mul] at hf; obtain ⟨d, h1, h2⟩ := map_some hf; exact ⟨d, Bool.eq_false_iff.2 fun h => product_not_nan h1 (by cases d <;> simp_all [Datum.isNaN]), h2⟩
      · rw [bits_quo] at hf; obtain ⟨d, h1, h2⟩ := map_some hf; exact ⟨d, Bool.eq_false_iff.2 fun h => quotient_not_nan h1 (by cases d <;> simp_all [Datum.isNaN]), h2⟩
    obtain ⟨d, h1, h2⟩ := this
    rw [h2]; exact hw d h1
/-- What a positive word stands for, in units of the least place. -/
def unitsOf (r : Nat) : Nat := if r < 8388608 then r else (8388608 + r % 8388608) * 2 ^ (r / 8388608 - 1)
theorem rd_units {r : Nat} (h : r < 4294967296) {m : Nat} {i : Int} (hr : rd r = .number false m i) : r < 2147483648 ∧ -149 ≤ i ∧ m * 2 ^ (i + 149).toNat = unitsOf r := by
  have hs : FloatKind.f32.format.signWeight = 2147483648 := by decide
  unfold rd Format.read at hr
  rw [hs, f32_binade, f32_inf, f32_least] at hr
  simp only at hr
  have hlt : r < 2147483648 := by
    rcases Nat.lt_or_ge r 2147483648 with h1 | h1
    · exact h1
    · exfalso
      have : (r / 2147483648 % 2 == 1) = true := by
        have : r / 2147483648 = 1 := by omega
        rw [this]; rfl
      rw [this] at hr
      split at hr
      · simp at hr
      · split at hr
        · simp at hr
        · split at hr <;> cases hr
  rw [Nat.mod_eq_of_lt hlt] at hr
  refine ⟨hlt, ?_⟩
  unfold unitsOf
  split at hr
  · rename_i c
    rw [if_pos c]
    injection hr with e1 e2 e3
    subst e2; subst e3
    exact ⟨by omega, by simp⟩
  · rename_i c
    rw [if_neg c]
    split at hr
    · injection hr with e1 e2 e3
      subst e2; subst e3
      refine ⟨by omega, ?_⟩
      congr 2; omega
    · split at hr <;> cases hr
theorem units_lt {a b : Nat} (h : a < b) : unitsOf a < unitsOf b := by
  unfold unitsOf
  by_cases hb : b < 8388608
  · rw [if_pos hb, if_pos (by omega)]; exact h
  · rw [if_neg hb]
    have hp : ∀ k, 0 < 2 ^ k := fun k => Nat.two_pow_pos k
    by_cases ha : a < 8388608
    · rw [if_pos ha]
      have := Nat.le_mul_of_pos_right (8388608 + b % 8388608) (hp (b / 8388608 - 1))
      omega
    · rw [if_neg ha]
      have hle : a / 8388608 ≤ b / 8388608 := Nat.div_le_div_right (Nat.le_of_lt h)
      rcases Nat.lt_or_eq_of_le hle with hlt | he
      · have e : 2 * 2 ^ (a / 8388608 - 1) ≤ 2 ^ (b / 8388608 - 1) := by
          rw [← Nat.pow_succ']
          exact Nat.pow_le_pow_right (by omega) (by have : 1 ≤ a / 8388608 := by omega
                                                    omega)
        have h1 : (8388608 + a % 8388608) * 2 ^ (a / 8388608 - 1) < 16777216 * 2 ^ (a / 8388608 - 1) := Nat.mul_lt_mul_of_pos_right (by omega) (hp _)
        have h2 : 8388608 * 2 ^ (b / 8388608 - 1) ≤ (8388608 + b % 8388608) * 2 ^ (b / 8388608 - 1) := Nat.mul_le_mul_right _ (by omega)
        omega
      · rw [he]
        exact Nat.mul_lt_mul_of_pos_right (by omega) (hp _)
/-- Positive words that are equal as numbers are the same word. -/
theorem pos_inj {a b : Nat} (ha : a < 4294967296) (hb : b < 4294967296) {m n : Nat} {i j : Int} (ra : rd a = .number false m i) (rb : rd b = .number false n j) (h : (rd a).order (rd b) = some .eq) : a = b := by
  obtain ⟨_, a1, a2⟩ := rd_units ha ra
  obtain ⟨_, b1, b2⟩ := rd_units hb rb
  rw [ra, rb] at h
  simp only [Datum.order, Option.some.injEq] at h
  have he := Int.compare_eq_eq.1 h
  rw [signed_pow, signed_pow, if_neg (by simp), if_neg (by simp)] at he
  have he2 : m * 2 ^ (i - min i j).toNat = n * 2 ^ (j - min i j).toNat := by exact_mod_cast he
  have e3 : m * 2 ^ (i + 149).toNat = n * 2 ^ (j + 149).toNat := by
    rw [show (i + 149).toNat = (i - min i j).toNat + (min i j + 149).toNat by omega, show (j + 149).toNat = (j - min i j).toNat + (min i j + 149).toNat by omega, Nat.pow_add, Nat.pow_add, ← Nat.mul_assoc, ← Nat.mul_assoc, he2]
  rw [a2, b2] at e3
  rcases Nat.lt_trichotomy a b with h1 | h1 | h1
  · have := units_lt h1; omega
  · exact h1
  · have := units_lt h1; omega
end Go.Proofs.YteebkfdocdmboaaDoor
