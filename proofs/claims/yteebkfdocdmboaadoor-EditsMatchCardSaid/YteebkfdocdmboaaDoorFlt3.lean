/- Words of a float format: a number written at another place; whole numbers are added exactly; what is not too great is a number. No program in sight. -/
import Derived.Test.YteebkfdocdmboaaDoorFlt2
namespace Go.Proofs.YteebkfdocdmboaaDoor
open Go.RowKit Ieee

theorem log2_mul_pow {n : Nat} (j : Nat) (hn : n ≠ 0) : (n * 2 ^ j).log2 = n.log2 + j := by
  have h2 : n * 2 ^ j ≠ 0 := Nat.mul_ne_zero hn (Nat.ne_of_gt (Nat.two_pow_pos j))
  have a : n.log2 + j ≤ (n * 2 ^ j).log2 := by
    rw [Nat.le_log2 h2, Nat.pow_add]
    exact Nat.mul_le_mul_right _ (Nat.log2_self_le hn)
  have b : (n * 2 ^ j).log2 < n.log2 + j + 1 := by
    rw [Nat.log2_lt h2, show n.log2 + j + 1 = (n.log2 + 1) + j by omega, Nat.pow_add]
    exact Nat.mul_lt_mul_of_pos_right Nat.lt_log2_self (Nat.two_pow_pos j)
  omega
theorem cut_even (neg : Bool) (n drop g : Nat) (hg : g = min drop (n.log2 + 2)) : Toward.even.cut neg n drop = n / 2 ^ g + (decide (2 ^ g < 2 * (n % 2 ^ g)) || (2 ^ g == 2 * (n % 2 ^ g) && n / 2 ^ g % 2 == 1)).toNat := by
  unfold Toward.cut
  subst hg
  simp only [Nat.shiftLeft_eq, Nat.one_mul]
theorem cut_scale (neg : Bool) {n : Nat} (drop j : Nat) (hn : n ≠ 0) : Toward.even.cut neg (n * 2 ^ j) (drop + j) = Toward.even.cut neg n drop := by
  rw [cut_even neg (n * 2 ^ j) (drop + j) (min drop (n.log2 + 2) + j) (by rw [log2_mul_pow j hn]; omega), cut_even neg n drop _ rfl]
  generalize min drop (n.log2 + 2) = g
  have hp : 0 < 2 ^ j := Nat.two_pow_pos j
  rw [Nat.pow_add, Nat.mul_div_mul_right _ _ hp, Nat.mul_mod_mul_right]
  congr 3
  · rw [decide_eq_decide, ← Nat.mul_assoc]
    exact Nat.mul_lt_mul_right hp
  · congr 1
    rw [Bool.eq_iff_iff, beq_iff_eq, beq_iff_eq, ← Nat.mul_assoc]
    exact Nat.mul_right_cancel_iff hp
theorem cut_exact (neg : Bool) {n : Nat} (j drop : Nat) (hn : n ≠ 0) (h : drop ≤ j) : Toward.even.cut neg (n * 2 ^ j) drop = n * 2 ^ (j - drop) := by
  rw [cut_even neg (n * 2 ^ j) drop drop (by rw [log2_mul_pow j hn]; omega)]
  have e : n * 2 ^ j = n * 2 ^ (j - drop) * 2 ^ drop := by rw [Nat.mul_assoc, ← Nat.pow_add, Nat.sub_add_cancel h]
  have hp : 0 < 2 ^ drop := Nat.two_pow_pos drop
  rw [e, Nat.mul_div_cancel _ hp, Nat.mul_mod_left]
  have h1 : (2 ^ drop == 2 * 0) = false := by simp
  simp [h1]
/-- A number may be told with more digits further down. -/
theorem nearest_scale (f : Format) (s : Bool) (k j : Nat) (p : Int) : f.nearest s (k * 2 ^ j) (p - j) = f.nearest s k p := by
  by_cases hk : k = 0
  · subst hk; rw [Nat.zero_mul]; rfl
  have h2 : k * 2 ^ j ≠ 0 := Nat.mul_ne_zero hk (Nat.ne_of_gt (Nat.two_pow_pos j))
  unfold Format.nearest
  rw [if_neg hk, if_neg h2, log2_mul_pow j hk, show p - (j : Int) + ((k.log2 + j : Nat) : Int) - f.fractionBits = p + k.log2 - f.fractionBits by omega]
  generalize max (p + k.log2 - f.fractionBits) f.leastPlace = last
  have key : Toward.even.cut s ((k * 2 ^ j) <<< (p - j - last).toNat) (last - (p - j)).toNat = Toward.even.cut s (k <<< (p - last).toNat) (last - p).toNat := by
    simp only [Nat.shiftLeft_eq]
    by_cases h1 : last ≤ p - j
    · rw [show (last - (p - j)).toNat = 0 by omega, show (last - p).toNat = 0 by omega, cut_none, cut_none, Nat.mul_assoc, ← Nat.pow_add, show j + (p - j - last).toNat = (p - last).toNat by omega]
    · by_cases h3 : last ≤ p
      · rw [show (p - j - last).toNat = 0 by omega, show (last - p).toNat = 0 by omega, cut_none, Nat.pow_zero, Nat.mul_one, cut_exact s j _ hk (by omega), show j - (last - (p - j)).toNat = (p - last).toNat by omega]
      · rw [show (p - j - last).toNat = 0 by omega, show (p - last).toNat = 0 by omega, Nat.pow_zero, Nat.mul_one, Nat.mul_one, show (last - (p - j)).toNat = (last - p).toNat + j by omega, cut_scale s _ j hk]
  simp only [key]
theorem signed_pow (s : Bool) (m k : Nat) : signed s m k = (if s then -(m : Int) else (m : Int)) * 2 ^ k := by
  unfold signed
  cases s
  · simp only [Bool.false_eq_true, if_false, Nat.shiftLeft_eq]; push_cast; rfl
  · simp only [if_true, Nat.shiftLeft_eq]; push_cast; rw [Int.neg_mul]
/-- b stands for the whole number i. -/
def Val (b : Nat) (i : Int) : Prop := ∃ s m p, rd b = .number s m p ∧ ∀ base : Int, base ≤ p → base ≤ 0 → signed s m (p - base).toNat = i * 2 ^ (-base).toNat
theorem pow_pos' (k : Nat) : (0 : Int) < 2 ^ k := Int.pow_pos (by omega)
/-- One place is enough. -/
theorem val_of {b : Nat} {i : Int} {s : Bool} {m : Nat} {p base : Int} (h : rd b = .number s m p) (h1 : base ≤ p) (h2 : base ≤ 0) (he : signed s m (p - base).toNat = i * 2 ^ (-base).toNat) : Val b i := by
  refine ⟨s, m, p, h, fun c hc1 hc2 => ?_⟩
  rw [signed_pow] at he ⊢
  generalize (if s then -(m : Int) else (m : Int)) = z at he ⊢
  rcases Int.le_total base c with hbc | hcb
  · have e1 : (p - base).toNat = (p - c).toNat + (c - base).toNat := by omega
    have e2 : (-base).toNat = (-c).toNat + (c - base).toNat := by omega
    rw [e1, e2, Int.pow_add, Int.pow_add, ← Int.mul_assoc, ← Int.mul_assoc] at he
    exact Int.eq_of_mul_eq_mul_right (Int.ne_of_gt (pow_pos' _)) he
  · have e1 : (p - c).toNat = (p - base).toNat + (base - c).toNat := by omega
    have e2 : (-c).toNat = (-base).toNat + (base - c).toNat := by omega
    rw [e1, e2, Int.pow_add, Int.pow_add, ← Int.mul_assoc, ← Int.mul_assoc, he]
theorem Val.num {b : Nat} {i : Int} (h : Val b i) : ∃ s m p, rd b = .number s m p := by
  obtain ⟨s, m, p, h, _⟩ := h; exact ⟨s, m, p, h⟩
theorem val_sign {b : Nat} {i : Int} {s : Bool} {m : Nat} {p : Int} (h : Val b i) (hb : rd b = .number s m p) : (i < 0 → s = true) ∧ (0 < i → s = false) := by
  obtain ⟨s', m', p', h1, h2⟩ := h
  rw [hb] at h1
  cases h1
  have h3 := h2 (min p 0) (by omega) (by omega)
  rw [signed_pow] at h3
  have q1 := pow_pos' (p - min p 0).toNat
  have q2 := pow_pos' (-min p 0).toNat
  constructor
  · intro hi
    have hl : i * 2 ^ (-min p 0).toNat < 0 := Int.mul_neg_of_neg_of_pos hi q2
    cases s
    · exfalso
      rw [← h3] at hl
      have : (0 : Int) ≤ (if false = true then -(m : Int) else (m : Int)) * 2 ^ (p - min p 0).toNat := Int.mul_nonneg (by simp) (Int.le_of_lt q1)
      omega
    · rfl
  · intro hi
    have hl : 0 < i * 2 ^ (-min p 0).toNat := Int.mul_pos hi q2
    cases s
    · rfl
    · exfalso
      rw [← h3] at hl
      have : (if true = true then -(m : Int) else (m : Int)) * 2 ^ (p - min p 0).toNat ≤ 0 := Int.mul_nonpos_of_nonpos_of_nonneg (by simp) (Int.le_of_lt q1)
      omega
theorem ofInt_val {n : Int} (h1 : -8388608 < n) (h2 : n < 8388608) : Val (floatOfInt .f32 n) n ∧ ∃ m p, rd (floatOfInt .f32 n) = .number (decide (n < 0)) m p ∧ (m = 0 ∨ p + m.log2 ≤ 126) := by
  have hd : floatOfInt .f32 n = FloatKind.f32.format.nearest (decide (n < 0)) n.natAbs 0 := rfl
  by_cases h0 : n = 0
  · subst h0
    have hz : rd (floatOfInt .f32 0) = .number false 0 (-149) := by decide
    exact ⟨val_of (base := -149) hz (by omega) (by omega) (by decide), 0, -149, by rw [hz]; rfl, .inl rfl⟩
  · have hm : n.natAbs ≠ 0 := by omega
    have hl : n.natAbs.log2 ≤ 22 := log2_le (by omega)
    have hf : FloatKind.f32.format.fractionBits = 23 := rfl
    have hlp : FloatKind.f32.format.leastPlace = -149 := by decide
    obtain ⟨last, hlast⟩ : ∃ last, last = max ((0 : Int) + n.natAbs.log2 - FloatKind.f32.format.fractionBits) FloatKind.f32.format.leastPlace := ⟨_, rfl⟩
    have hll := hlast
    rw [hf, hlp] at hll
    have hle : last ≤ 0 := by omega
    have hub : n.natAbs * 2 ^ ((0 : Int) - last).toNat < 2 ^ 24 := by
      have a : n.natAbs < 2 ^ (n.natAbs.log2 + 1) := Nat.lt_log2_self
      have b : n.natAbs * 2 ^ ((0 : Int) - last).toNat < 2 ^ (n.natAbs.log2 + 1) * 2 ^ ((0 : Int) - last).toNat := Nat.mul_lt_mul_of_pos_right a (Nat.two_pow_pos _)
      rw [← Nat.pow_add] at b
      exact Nat.lt_of_lt_of_le b (Nat.pow_le_pow_right (by omega) (by omega))
    have hr : (last - FloatKind.f32.format.leastPlace).toNat * FloatKind.f32.format.binade + n.natAbs * 2 ^ ((0 : Int) - last).toNat < FloatKind.f32.format.infRung := by
      rw [f32_inf, f32_binade, hlp]
      have : (2 : Nat) ^ 24 = 16777216 := by decide
      omega
    have hx := nearest_exact FloatKind.f32.format (decide (n < 0)) n.natAbs 0 last hm hlast hle hr
    have hrd : rd (floatOfInt .f32 n) = .number (decide (n < 0)) (n.natAbs * 2 ^ ((0 : Int) - last).toNat) last := hx
    refine ⟨val_of (base := last) hrd (by omega) hle ?_, _, _, hrd, .inr (by have := log2_le (b := 23) hub; omega)⟩
    rw [signed_pow, show (last - last).toNat = 0 by omega, Int.pow_zero, Int.mul_one, show ((0 : Int) - last).toNat = (-last).toNat by omega]
    push_cast
    by_cases hn : n < 0
    · rw [decide_eq_true hn, if_pos rfl, ← Int.neg_mul]
      congr 1; omega
    · rw [decide_eq_false hn, if_neg (by simp)]
      congr 1; omega
theorem val_not_nan {b : Nat} {i : Int} (h : Val b i) : isNaN b = false := by
  obtain ⟨s, m, p, h1, _⟩ := h
  rw [isNaN_iff, h1]; rfl
theorem ofInt_canon (n : Int) : canon (floatOfInt .f32 n) = floatOfInt .f32 n := by
  refine canon_of_num ?_
  rw [isNaN_iff]
  have hd : floatOfInt .f32 n = FloatKind.f32.format.nearest (decide (n < 0)) n.natAbs 0 := rfl
  unfold rd
  rw [hd]
  rcases read_nearest FloatKind.f32.format (decide (n < 0)) n.natAbs 0 with ⟨k, l, h, _⟩ | h <;> rw [h] <;> rfl
/-- A sum of whole numbers, written. -/
theorem sum_whole {a c : Int} {s t : Bool} {m n : Nat} {p q : Int} (ha : ∀ base : Int, base ≤ p → base ≤ 0 → signed s m (p - base).toNat = a * 2 ^ (-base).toNat)
    (hc : ∀ base : Int, base ≤ q → base ≤ 0 → signed t n (q - base).toNat = c * 2 ^ (-base).toNat) (hz : a + c = 0 → (s && t) = false) :
    ((Datum.number s m p).sum (.number t n q)).map FloatKind.f32.format.write = some (floatOfInt .f32 (a + c)) := by
  -- both at one place
  have hg : ∀ base : Int, base ≤ p → base ≤ q → base ≤ 0 → signed s m (p - base).toNat + signed t n (q - base).toNat = (a + c) * 2 ^ (-base).toNat := fun base h1 h2 h3 => by
    rw [ha base h1 h3, hc base h2 h3, Int.add_mul]
  simp only [Datum.sum, Option.map_some]
  congr 1
  obtain ⟨base, hb⟩ : ∃ base, base = min p q := ⟨_, rfl⟩
  rw [← hb]
  obtain ⟨T, hT⟩ : ∃ T, T = signed s m (p - base).toNat + signed t n (q - base).toNat := ⟨_, rfl⟩
  rw [← hT]
  show FloatKind.f32.format.nearest _ _ _ = FloatKind.f32.format.nearest (decide (a + c < 0)) (a + c).natAbs 0
  -- at a place not above 0
  obtain ⟨b2, hb2⟩ : ∃ b2, b2 = min base 0 := ⟨_, rfl⟩
  have hT2 : T * 2 ^ (base - b2).toNat = (a + c) * 2 ^ (-b2).toNat := by
    rw [← hg b2 (by omega) (by omega) (by omega), hT, Int.add_mul, signed_pow, signed_pow, signed_pow, signed_pow, Int.mul_assoc, Int.mul_assoc, ← Int.pow_add, ← Int.pow_add, show (p - base).toNat + (base - b2).toNat = (p - b2).toNat by omega, show (q - base).toNat + (base - b2).toNat = (q - b2).toNat by omega]
  have hN : T.natAbs * 2 ^ (base - b2).toNat = (a + c).natAbs * 2 ^ (-b2).toNat := by
    have := congrArg Int.natAbs hT2
    rw [Int.natAbs_mul, Int.natAbs_mul, Int.natAbs_pow, Int.natAbs_pow] at this
    exact this
  have e1 := nearest_scale FloatKind.f32.format (if T = 0 then s && t else decide (T < 0)) T.natAbs (base - b2).toNat base
  rw [show base - ((base - b2).toNat : Int) = b2 by omega, hN] at e1
  have e2 := nearest_scale FloatKind.f32.format (if T = 0 then s && t else decide (T < 0)) (a + c).natAbs (-b2).toNat 0
  rw [show (0 : Int) - ((-b2).toNat : Int) = b2 by omega] at e2
  rw [← e1, e2]
  congr 1
  have q1 := pow_pos' (base - b2).toNat
  have q2 := pow_pos' (-b2).toNat
  by_cases h0 : T = 0
  · have hac : a + c = 0 := by
      rw [h0, Int.zero_mul] at hT2
      rcases Int.mul_eq_zero.1 hT2.symm with h | h
      · exact h
      · omega
    rw [if_pos h0, hz hac, hac]; rfl
  · rw [if_neg h0]
    have hiff : T < 0 ↔ a + c < 0 := by
      constructor
      · intro h
        have : (a + c) * 2 ^ (-b2).toNat < 0 := by rw [← hT2]; exact Int.mul_neg_of_neg_of_pos h q1
        by_cases hh : 0 ≤ a + c
        · have := Int.mul_nonneg hh (Int.le_of_lt q2); omega
        · omega
      · intro h
        have : T * 2 ^ (base - b2).toNat < 0 := by rw [hT2]; exact Int.mul_neg_of_neg_of_pos h q2
        by_cases hh : 0 ≤ T
        · have := Int.mul_nonneg hh (Int.le_of_lt q1); omega
        · omega
    exact decide_eq_decide.2 hiff
theorem fop_add_whole {x y : Nat} {i j : Int} (hx : Val x i) (hy : Val y j) (hz : i + j = 0 → ∀ s m p t n q, rd x = .number s m p → rd y = .number t n q → (s && t) = false) : fop .add x y = floatOfInt .f32 (i + j) := by
  obtain ⟨s, m, p, h1, h2⟩ := hx
  obtain ⟨t, n, q, h3, h4⟩ := hy
  have e : floatBits .add .f32 x y = ((rd x).sum (rd y)).map FloatKind.f32.format.write := rfl
  unfold fop
  rw [e, h1, h3, sum_whole h2 h4 (fun h => hz h _ _ _ _ _ _ h1 h3), Option.map_some, Option.getD_some, ofInt_canon]
theorem fop_sub_whole {x y : Nat} {i j : Int} (hx : Val x i) (hy : Val y j) (hz : i - j = 0 → ∀ s m p t n q, rd x = .number s m p → rd y = .number t n q → (s && !t) = false) : fop .sub x y = floatOfInt .f32 (i - j) := by
  obtain ⟨s, m, p, h1, h2⟩ := hx
  obtain ⟨t, n, q, h3, h4⟩ := hy
  have e : floatBits .sub .f32 x y = ((rd x).sum (rd y).opposite).map FloatKind.f32.format.write := rfl
  unfold fop
  rw [e, h1, h3]
  have h5 : ∀ base : Int, base ≤ q → base ≤ 0 → signed (!t) n (q - base).toNat = (-j) * 2 ^ (-base).toNat := fun base a b => by rw [signed_not, h4 base a b, Int.neg_mul]
  have := sum_whole h2 h5 (fun h => hz (by omega) _ _ _ _ _ _ h1 h3)
  rw [show i + -j = i - j by omega] at this
  rw [show (Datum.number t n q).opposite = .number (!t) n q from rfl, this, Option.map_some, Option.getD_some, ofInt_canon]
/-- From a whole number another one is taken: exactly. -/
theorem sub_ofInt {x i : Int} {X : Nat} (h1 : -8388608 < x) (h2 : x < 8388608) (hX : Val X i) : fop .sub (floatOfInt .f32 x) X = floatOfInt .f32 (x - i) := by
  obtain ⟨hv, m0, p0, hr, _⟩ := ofInt_val h1 h2
  refine fop_sub_whole hv hX (fun h s m p t n q e1 e2 => ?_)
  rw [hr] at e1
  cases e1
  by_cases hx : x < 0
  · have := (val_sign hX e2).1 (by omega)
    rw [this]; simp
  · rw [decide_eq_false hx]; rfl
theorem add_ofInt {d i : Int} {X : Nat} (h1 : -8388608 < d) (h2 : d < 8388608) (hX : Val X i) : fop .add X (floatOfInt .f32 d) = floatOfInt .f32 (i + d) := by
  obtain ⟨hv, m0, p0, hr, _⟩ := ofInt_val h1 h2
  refine fop_add_whole hX hv (fun h s m p t n q e1 e2 => ?_)
  rw [hr] at e2
  cases e2
  by_cases hd : d < 0
  · have := (val_sign hX e1).2 (by omega)
    rw [this]; rfl
  · rw [decide_eq_false hd, Bool.and_false]
/-- What is not too great is a number. -/
theorem finite_write (s : Bool) (m : Nat) (p : Int) (h : m = 0 ∨ p + m.log2 ≤ 126) : ∃ k l, rd (FloatKind.f32.format.nearest s m p) = .number s k l := by
  by_cases hm : m = 0
  · subst hm; exact ⟨_, _, nearest_zero _ _ _⟩
  have hp : p + m.log2 ≤ 126 := by rcases h with h | h; · exact absurd h hm
                                   · exact h
  have hf : FloatKind.f32.format.fractionBits = 23 := rfl
  have hlp : FloatKind.f32.format.leastPlace = -149 := by decide
  unfold rd
  unfold Format.nearest
  rw [if_neg hm, hf, hlp, f32_inf, f32_binade]
  obtain ⟨last, hlast⟩ : ∃ last, last = max (p + m.log2 - (23 : Nat)) (-149) := ⟨_, rfl⟩
  simp only [← hlast]
  have hkept : Toward.even.cut s (m <<< (p - last).toNat) (last - p).toNat ≤ 16777216 := by
    rw [Nat.shiftLeft_eq]
    have hub : m < 2 ^ (m.log2 + 1) := Nat.lt_log2_self
    have e24 : (2 : Nat) ^ 24 = 16777216 := by decide
    by_cases hd : last ≤ p
    · rw [show (last - p).toNat = 0 by omega, cut_none]
      have b : m * 2 ^ (p - last).toNat < 2 ^ (m.log2 + 1) * 2 ^ (p - last).toNat := Nat.mul_lt_mul_of_pos_right hub (Nat.two_pow_pos _)
      rw [← Nat.pow_add] at b
      have := Nat.lt_of_lt_of_le b (Nat.pow_le_pow_right (by omega) (show m.log2 + 1 + (p - last).toNat ≤ 24 by omega))
      omega
    · rw [show (p - last).toNat = 0 by omega, Nat.pow_zero, Nat.mul_one, cut_even s m _ _ rfl]
      generalize hg : min (last - p).toNat (m.log2 + 2) = g
      have hlow : m / 2 ^ g < 2 ^ 24 := by
        rw [Nat.div_lt_iff_lt_mul (Nat.two_pow_pos g), ← Nat.pow_add]
        exact Nat.lt_of_lt_of_le hub (Nat.pow_le_pow_right (by omega) (by omega))
      have hb : ∀ b : Bool, b.toNat ≤ 1 := by decide
      have := hb (decide (2 ^ g < 2 * (m % 2 ^ g)) || (2 ^ g == 2 * (m % 2 ^ g) && m / 2 ^ g % 2 == 1))
      omega
  generalize Toward.even.cut s (m <<< (p - last).toNat) (last - p).toNat = K at hkept
  rw [Nat.min_eq_left (by omega)]
  have hsw : (last - -149).toNat * 8388608 + K < FloatKind.f32.format.signWeight := by
    have : FloatKind.f32.format.signWeight = 2147483648 := by decide
    omega
  rw [read_word _ s _ hsw, f32_inf, f32_binade]
  split
  · exact ⟨_, _, rfl⟩
  · rw [if_pos (by omega)]
    exact ⟨_, _, rfl⟩
end Go.Proofs.YteebkfdocdmboaaDoor
