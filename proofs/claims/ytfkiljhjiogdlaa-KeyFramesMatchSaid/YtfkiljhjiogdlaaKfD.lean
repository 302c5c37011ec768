/- Between two key frames, plain: small numbers mixed, the nearest whole number. No program in sight. -/
import Derived.Test.YtfkiljhjiogdlaaKfB
import Derived.Test.YtfkiljhjiogdlaaDbl3
import Derived.Test.YtfkiljhjiogdlaaLerp
import Derived.Test.YtfkiljhjiogdlaaWnK
namespace Go.Proofs.Ytfkiljhjiogdlaa
open Go.RowKit Ieee

/-- Within bounds: how great a number is. -/
theorem order_scaled {s : Bool} {m : Nat} {p : Int} {M : Nat} {q : Int} (hlo : (Datum.number s m p).order (.number true M q) ≠ some .lt ∨ (Datum.number s m p).order (.number false 0 (-149)) ≠ some .lt)
    (hhi : (Datum.number s m p).order (.number false M q) ≠ some .gt) : m * 2 ^ (p - min p q).toNat ≤ M * 2 ^ (q - min p q).toNat := by
  have key : ∀ x y : Int, (some (compare x y) ≠ some Ordering.lt → y ≤ x) ∧ (some (compare x y) ≠ some Ordering.gt → x ≤ y) := fun x y =>
    ⟨fun h => Int.not_lt.1 fun h2 => h (by rw [Int.compare_eq_lt.2 h2]), fun h => Int.not_lt.1 fun h2 => h (by rw [Int.compare_eq_gt.2 h2])⟩
  simp only [Datum.order, signed_pow] at hlo hhi
  have h2 := (key _ _).2 hhi
  cases s
  · simp only [Bool.false_eq_true, if_false] at h2
    exact_mod_cast h2
  · rcases hlo with h | h
    · have h1 := (key _ _).1 h
      simp only [if_true] at h1
      rw [Int.neg_mul, Int.neg_mul] at h1
      have h1 := Int.neg_le_neg_iff.1 h1
      exact_mod_cast h1
    · have h1 := (key _ _).1 h
      simp only [if_true, Bool.false_eq_true, if_false, Int.neg_mul] at h1
      have h3 : (m : Int) * 2 ^ (p - min p (-149)).toNat ≤ 0 := by
        have : ((0 : Nat) : Int) * 2 ^ (-149 - min p (-149)).toNat = 0 := by simp
        omega
      have h4 : m * 2 ^ (p - min p (-149)).toNat ≤ 0 := by exact_mod_cast h3
      have hp := Nat.two_pow_pos (p - min p (-149)).toNat
      have hm : m = 0 := by
        rcases Nat.eq_zero_or_pos m with h0 | h0
        · exact h0
        · have := Nat.mul_pos h0 hp; omega
      rw [hm, Nat.zero_mul]; exact Nat.zero_le _
theorem trunc_le {m V : Nat} {p q : Int} (hq : q ≤ 0) (h : m * 2 ^ (p - min p q).toNat ≤ (V * 2 ^ (-q).toNat) * 2 ^ (q - min p q).toNat) : (m <<< p.toNat) / 2 ^ (-p).toNat ≤ V := by
  rw [Nat.shiftLeft_eq]
  rw [Nat.mul_assoc, ← Nat.pow_add, show (-q).toNat + (q - min p q).toNat = (-min p q).toNat by omega] at h
  by_cases h0 : 0 ≤ p
  · rw [show (-p).toNat = 0 by omega, Nat.pow_zero, Nat.div_one]
    rw [show min p q = q by omega, show (p - q).toNat = p.toNat + (-q).toNat by omega, Nat.pow_add, ← Nat.mul_assoc] at h
    exact Nat.le_of_mul_le_mul_right h (Nat.two_pow_pos _)
  · rw [show p.toNat = 0 by omega, Nat.pow_zero, Nat.mul_one]
    apply Nat.div_le_of_le_mul
    rw [show (-min p q).toNat = (-p).toNat + (p - min p q).toNat by omega, Nat.pow_add, ← Nat.mul_assoc] at h
    have := Nat.le_of_mul_le_mul_right h (Nat.two_pow_pos _)
    rw [Nat.mul_comm]; exact this
theorem smb_of {m e : Nat} {p q : Int} (hq : q ≤ 0) (h : m * 2 ^ (p - min p q).toNat ≤ (2 ^ e * 2 ^ (-q).toNat) * 2 ^ (q - min p q).toNat) : m = 0 ∨ p + m.log2 ≤ e := by
  by_cases hm : m = 0
  · exact .inl hm
  right
  rw [Nat.mul_assoc, ← Nat.pow_add, show (-q).toNat + (q - min p q).toNat = (-min p q).toNat by omega, ← Nat.pow_add] at h
  have h1 : (m * 2 ^ (p - min p q).toNat).log2 ≤ (2 ^ (e + (-min p q).toNat)).log2 := log2_mono h (Nat.ne_of_gt (Nat.two_pow_pos _))
  rw [log2_mul_pow _ hm, Nat.log2_two_pow] at h1
  omega

theorem rd_lim : rd 1233125376 = .number false 8388608 (-3) := by decide
theorem rd_limn : rd 3380609024 = .number true 8388608 (-3) := by decide
theorem rd_soft : rd 1166016512 = .number false 8388608 (-11) := by decide
theorem ne_of_beq {o : Option Ordering} {a : Ordering} (h : (o == some a) = false) : o ≠ some a := fun e => by rw [e] at h; simp at h
theorem smb_in {v lo : Nat} (hl : lo = 3380609024 ∨ lo = 0) (hv : isNum v = true) (h : outF v lo 1233125376 = false) : SmB 20 v := by
  obtain ⟨s, m, p, hr⟩ := isNum_rd hv
  unfold outF ltF gtF at h
  simp only [Bool.or_eq_false_iff] at h
  have h1 : (rd v).order (rd lo) ≠ some .lt := ne_of_beq h.1
  have h2 : (rd v).order (rd 1233125376) ≠ some .gt := ne_of_beq h.2
  rw [hr] at h1 h2
  rw [rd_lim] at h2
  refine ⟨s, m, p, hr, smb_of (q := -3) (e := 20) (by omega) ?_⟩
  refine order_scaled ?_ h2
  rcases hl with rfl | rfl
  · rw [rd_limn] at h1; exact .inl h1
  · rw [rd_zero] at h1; exact .inr h1
theorem smb_soft {v : Nat} (hv : isNum v = true) (h : outF v 0 1166016512 = false) : SmB 20 v := by
  obtain ⟨s, m, p, hr⟩ := isNum_rd hv
  unfold outF ltF gtF at h
  simp only [Bool.or_eq_false_iff] at h
  have h1 : (rd v).order (rd 0) ≠ some .lt := ne_of_beq h.1
  have h2 : (rd v).order (rd 1166016512) ≠ some .gt := ne_of_beq h.2
  rw [hr] at h1 h2
  rw [rd_soft] at h2
  rw [rd_zero] at h1
  have := smb_of (m := m) (p := p) (q := -11) (e := 12) (by omega) (order_scaled (.inr h1) h2)
  exact ⟨s, m, p, hr, this.imp id fun h => by omega⟩
theorem win_smb {kind : Int} {X Y Wd H S : Nat} {ps : List (Int × Int)} (h : winErr kind X Y Wd H S ps = 0) :
    SmB 20 X ∧ SmB 20 Y ∧ SmB 20 Wd ∧ SmB 20 H ∧ SmB 20 S ∧ ps.length ≤ 32 ∧ ∀ k, k < ps.length → -1048576 ≤ (ps.getD k default).1 ∧ (ps.getD k default).1 ≤ 1048576 ∧ -1048576 ≤ (ps.getD k default).2 ∧ (ps.getD k default).2 ≤ 1048576 := by
  unfold winErr at h
  split at h
  · omega
  split at h
  · omega
  rename_i c2
  split at h
  · omega
  rename_i c3
  split at h
  · omega
  split at h
  · omega
  rename_i c5
  have c2 : [X, Y, Wd, H, S].all isNum = true := by simpa using c2
  simp only [List.all_cons, List.all_nil, Bool.and_true, Bool.and_eq_true] at c2
  obtain ⟨n1, n2, n3, n4, n5⟩ := c2
  have c3 : (outF X 3380609024 1233125376 || outF Y 3380609024 1233125376 || outF Wd 0 1233125376 || outF H 0 1233125376 || outF S 0 1166016512) = false := by simpa using c3
  simp only [Bool.or_eq_false_iff] at c3
  obtain ⟨⟨⟨⟨o1, o2⟩, o3⟩, o4⟩, o5⟩ := c3
  refine ⟨smb_in (.inl rfl) n1 o1, smb_in (.inl rfl) n2 o2, smb_in (.inr rfl) n3 o3, smb_in (.inr rfl) n4 o4, smb_soft n5 o5, by omega, fun k hk => ?_⟩
  have c5 : ps.any badP = false := by simpa using c5
  have hb : badP (ps.getD k default) = false := by
    have e : ps.getD k default = ps[k] := by simp [List.getD, hk]
    rw [e]
    rw [List.any_eq_false] at c5
    simpa using c5 _ (List.getElem_mem hk)
  unfold badP plB at hb
  simp only [Bool.or_eq_false_iff, Bool.not_eq_false', Bool.and_eq_true, decide_eq_true_eq] at hb
  omega

theorem add_nn_left {x y : Nat} (hx : ∃ s m i, rd x = .number s m i) (hy : isNaN y = false) : isNaN (fop .add x y) = false := by
  obtain ⟨s, m, i, hx⟩ := hx
  rcases cases_nn hy with ⟨t, n, j, hy⟩ | ⟨t, hy⟩
  · exact fop_nn (by rw [bits_add, hx, hy]; rfl) rfl
  · exact fop_nn (d := .infinity t) (by rw [bits_add, hx, hy]; rfl) rfl
theorem smb_num {k : Int} {b : Nat} (h : SmB k b) : ∃ s m i, rd b = .number s m i := by obtain ⟨s, m, i, h, _⟩ := h; exact ⟨s, m, i, h⟩
theorem smb_write {s : Bool} {m : Nat} {p k : Int} (h : m = 0 ∨ p + m.log2 ≤ k) (hk : k ≤ 126) : SmB (k + 1) (FloatKind.f32.format.nearest s m p) := by
  by_cases hm : m = 0
  · subst hm; exact ⟨s, 0, FloatKind.f32.format.leastPlace, nearest_zero _ _ _, .inl rfl⟩
  · obtain ⟨k', l', hr⟩ := finite_write s m p (h.imp id fun h => by omega)
    refine ⟨s, k', l', hr, ?_⟩
    have hw := write_bound FloatKind.f32.format f32_rungs hm hr
    rcases hw with h3 | h3
    · exact .inl h3
    · right
      have := h.resolve_left hm
      omega
theorem sub_smb {x y : Nat} {k : Int} (hx : SmB k x) (hy : SmB k y) (hk : k ≤ 100) : SmB (k + 2) (fop .sub x y) := by
  obtain ⟨s, m, i, ex, bx⟩ := hx
  obtain ⟨t, n, j, ey, by'⟩ := hy
  obtain ⟨sg, T, c, e1, e2, e3⟩ := sum_wide s (!t) m n (Int.le_refl i) (Int.le_refl j)
  have hb := sum_bound bx by' e3
  have hd : fop .sub x y = FloatKind.f32.format.write (.number sg T (min i j)) := fop_is (by rw [bits_sub, ex, ey]; show ((Datum.number s m i).sum (.number (!t) n j)).map _ = _; rw [e1]; rfl) rfl
  rw [hd]
  have := smb_write (s := sg) hb (by omega)
  rw [show k + 1 + 1 = k + 2 by omega] at this
  exact this
theorem mul_smb {x y : Nat} {k l : Int} (hx : SmB k x) (hy : SmB l y) (hk : k + l ≤ 100) : SmB (k + l + 2) (fop .mul x y) := by
  obtain ⟨s, m, i, ex, bx⟩ := hx
  obtain ⟨t, n, j, ey, by'⟩ := hy
  have hd : fop .mul x y = FloatKind.f32.format.write (.number (s ^^ t) (m * n) (i + j)) := fop_is (by rw [bits_mul, ex, ey]; rfl) rfl
  rw [hd]
  have hb : m * n = 0 ∨ i + j + (m * n).log2 ≤ k + l + 1 := by
    by_cases hm : m = 0
    · subst hm; exact .inl (Nat.zero_mul _)
    by_cases hn : n = 0
    · subst hn; exact .inl (Nat.mul_zero _)
    right
    have := log2_mul_le hm hn
    have := bx.resolve_left hm
    have := by'.resolve_left hn
    omega
  have := smb_write (s := s ^^ t) hb (by omega)
  rw [show k + l + 1 + 1 = k + l + 2 by omega] at this
  exact this
theorem lerp_nn {a b t : Nat} (ha : SmB 20 a) (hb : SmB 20 b) (ht : ∃ s m i, rd t = .number s m i) : isNaN (fop .sub b a) = false ∧ isNaN (fop .mul (fop .sub b a) t) = false ∧ isNaN (fop .add a (fop .mul (fop .sub b a) t)) = false := by
  have h1 := smb_num (sub_smb hb ha (by omega))
  have h2 := mul_num h1 ht
  refine ⟨?_, h2, add_nn_left (smb_num ha) h2⟩
  obtain ⟨s, m, i, h⟩ := h1
  rw [isNaN_iff, h]; rfl
theorem smb_nn {k : Int} {b : Nat} (h : SmB k b) : isNaN b = false := by
  obtain ⟨s, m, i, h, _⟩ := h
  rw [isNaN_iff, h]; rfl
theorem lerpV_nn {a b t : Nat} (ha : SmB 20 a) (hb : SmB 20 b) (ht : ∃ s m i, rd t = .number s m i) : isNaN (lerpV a b t) = false := by
  unfold lerpV
  split
  · rw [canon_of_num (smb_nn ha)]; exact smb_nn ha
  · split
    · rw [canon_of_num (smb_nn hb)]; exact smb_nn hb
    · exact (lerp_nn ha hb ht).2.2
theorem smB_num {t : Nat} (h : isNaN t = false) : ∃ s m i, rd (smB t) = .number s m i := by
  obtain ⟨s, m, i, hr, hb⟩ := lim_num h
  have hl : SmB 0 (lim01 t) := ⟨s, m, i, hr, hb⟩
  have h2 : SmB 1 twoB := ⟨false, 8388608, -22, rd_two, .inr (by decide)⟩
  have h3 : SmB 3 threeB := ⟨false, 12582912, -22, rd_three, .inr (by decide)⟩
  have a := mul_smb hl hl (by omega)
  have b := mul_smb h2 hl (by omega)
  have c := sub_smb h3 b (by omega)
  exact smb_num (mul_smb a c (by omega))

/-- A whole number as a single. -/
theorem ofInt_smb {n : Int} (h1 : -1048576 ≤ n) (h2 : n ≤ 1048576) : SmB 20 (floatOfInt .f32 n) := by
  obtain ⟨⟨s, m, p, hr, hv⟩, _⟩ := ofInt_val (n := n) (by omega) (by omega)
  refine ⟨s, m, p, hr, smb_of (q := 0) (e := 20) (by omega) ?_⟩
  have e := hv (min p 0) (by omega) (by omega)
  rw [signed_pow] at e
  have e2 : m * 2 ^ (p - min p 0).toNat = n.natAbs * 2 ^ (-min p 0).toNat := by
    have h3 := congrArg Int.natAbs e
    rw [Int.natAbs_mul, Int.natAbs_mul, Int.natAbs_pow, Int.natAbs_pow] at h3
    have h4 : (if s = true then -(m : Int) else (m : Int)).natAbs = m := by cases s <;> simp
    rw [h4] at h3
    exact h3
  rw [e2, show (0 - min p 0).toNat = (-min p 0).toNat by omega, show (-(0 : Int)).toNat = 0 by rfl, Nat.pow_zero, Nat.mul_one]
  refine Nat.mul_le_mul_right _ ?_
  have : (2 : Nat) ^ 20 = 1048576 := by decide
  omega
theorem ofInt_log' {n : Nat} (h1 : 1 ≤ n) (h2 : n ≤ 16777216) : ∃ m p, rd (floatOfInt .f32 (n : Int)) = .number false m p ∧ m ≠ 0 ∧ p + (m.log2 : Int) = n.log2 := by
  rcases Nat.lt_or_eq_of_le h2 with h2 | rfl
  · have hd : floatOfInt .f32 (n : Int) = FloatKind.f32.format.nearest false n 0 := by
      show FloatKind.f32.format.nearest (decide ((n : Int) < 0)) (n : Int).natAbs 0 = _
      rw [decide_eq_false (by omega), Int.natAbs_natCast]
    have hl : n.log2 ≤ 23 := log2_le (by omega)
    have hf : FloatKind.f32.format.fractionBits = 23 := rfl
    have hlp : FloatKind.f32.format.leastPlace = -149 := by decide
    obtain ⟨last, hlast⟩ : ∃ last, last = max ((0 : Int) + n.log2 - FloatKind.f32.format.fractionBits) FloatKind.f32.format.leastPlace := ⟨_, rfl⟩
    have hll := hlast
    rw [hf, hlp] at hll
    have hle : last ≤ 0 := by omega
    have hub : n * 2 ^ ((0 : Int) - last).toNat < 2 ^ 24 := by
      have a : n < 2 ^ (n.log2 + 1) := Nat.lt_log2_self
      have b : n * 2 ^ ((0 : Int) - last).toNat < 2 ^ (n.log2 + 1) * 2 ^ ((0 : Int) - last).toNat := Nat.mul_lt_mul_of_pos_right a (Nat.two_pow_pos _)
      rw [← Nat.pow_add] at b
      exact Nat.lt_of_lt_of_le b (Nat.pow_le_pow_right (by omega) (by omega))
    have hr : (last - FloatKind.f32.format.leastPlace).toNat * FloatKind.f32.format.binade + n * 2 ^ ((0 : Int) - last).toNat < FloatKind.f32.format.infRung := by
      rw [f32_inf, f32_binade, hlp]
      have : (2 : Nat) ^ 24 = 16777216 := by decide
      omega
    have hx := nearest_exact FloatKind.f32.format false n 0 last (by omega) hlast hle hr
    refine ⟨n * 2 ^ ((0 : Int) - last).toNat, last, by rw [hd]; exact hx, Nat.mul_ne_zero (by omega) (Nat.ne_of_gt (Nat.two_pow_pos _)), ?_⟩
    rw [log2_mul_pow _ (by omega)]
    omega
  · exact ⟨8388608, 1, by decide, by decide, by decide⟩
/-- A quotient of two whole numbers by way of doubles. -/
theorem share_dbl' {a b : Nat} (a1 : 1 ≤ a) (a2 : a ≤ 16777216) (b1 : 1 ≤ b) (b2 : b ≤ 16777216) :
    (∃ r1 r2 r3, floatToFloatBits .f32 (floatOfInt .f32 (a : Int)) .f64 = some r1 ∧ floatToFloatBits .f32 (floatOfInt .f32 (b : Int)) .f64 = some r2 ∧ floatBits .quo .f64 r1 r2 = some r3 ∧ floatToFloatBits .f64 r3 .f32 = some (fop .quo (floatOfInt .f32 (a : Int)) (floatOfInt .f32 (b : Int)))) ∧
    ∃ k l, rd (fop .quo (floatOfInt .f32 (a : Int)) (floatOfInt .f32 (b : Int))) = .number false k l := by
  obtain ⟨m, i, ea, hm, la⟩ := ofInt_log' a1 a2
  obtain ⟨n, j, eb, hn, lb⟩ := ofInt_log' b1 b2
  have l1 : a.log2 ≤ 24 := log2_le (by omega)
  have l2 : b.log2 ≤ 24 := log2_le (by omega)
  obtain ⟨h1, _, h3⟩ := quo_dbl ea eb hm hn (by omega) (by omega)
  exact ⟨h1, h3⟩

/-- The nearest whole number within the places. -/
def wid (v : Nat) : Nat := (floatToFloatBits .f32 v .f64).getD 0
def rte (b : Nat) : Nat := FloatKind.f64.encode ((FloatKind.f64.decode b).integral .even)
def lt64 (a b : Nat) : Bool := FloatKind.f64.format.order a b == some .lt
def gt64 (a b : Nat) : Bool := FloatKind.f64.format.order a b == some .gt
def lo64 : Nat := floatOfInt .f64 (-1048576)
def hi64 : Nat := floatOfInt .f64 1048576
def nearV (v : Nat) : Int := if lt64 (rte (wid v)) lo64 then -1048576 else if gt64 (rte (wid v)) hi64 then 1048576 else ((FloatKind.f64.decode (rte (wid v))).toInt .zero).getD 0
theorem write64_nn {d : Datum} (h : d.isNaN = false) : (FloatKind.f64.decode (FloatKind.f64.encode d)).isNaN = false := by
  cases d with
  | nan => cases h
  | infinity s =>
    show (FloatKind.f64.format.read (FloatKind.f64.format.word s FloatKind.f64.format.infRung)).isNaN = false
    rw [read_word _ s _ FloatKind.f64.format.infRung_lt, f64_inf, f64_binade, if_neg (by omega), if_neg (by omega), if_pos rfl]; rfl
  | number s m p =>
    show (FloatKind.f64.format.read (FloatKind.f64.format.nearest s m p)).isNaN = false
    rcases read_nearest FloatKind.f64.format s m p with ⟨k, l, h, _⟩ | h <;> rw [h] <;> rfl
theorem wid_ok {v : Nat} (h : isNaN v = false) : floatToFloatBits .f32 v .f64 = some (wid v) ∧ (FloatKind.f64.decode (wid v)).isNaN = false := by
  rcases cases_nn h with ⟨s, m, i, hr⟩ | ⟨s, hr⟩
  · obtain ⟨r, k, l, h1, h2, _⟩ := widen v s m i hr
    have hw : wid v = r := by unfold wid; rw [h1]; rfl
    rw [hw]
    exact ⟨h1, by rw [h2]; rfl⟩
  · have h1 : floatToFloatBits .f32 v .f64 = some (FloatKind.f64.encode (.infinity s)) := by
      unfold floatToFloatBits
      rw [if_neg (by decide), show FloatKind.f32.decode v = .infinity s from hr]
    have hw : wid v = FloatKind.f64.encode (.infinity s) := by unfold wid; rw [h1]; rfl
    rw [hw]
    exact ⟨h1, write64_nn rfl⟩
theorem integral_nn {d : Datum} (w : Toward) (h : d.isNaN = false) : (d.integral w).isNaN = false := by
  cases d with
  | nan => cases h
  | infinity s => rfl
  | number s m p => rfl
theorem rd_lo64 : FloatKind.f64.decode lo64 = .number true 4503599627370496 (-32) := by decide
theorem rd_hi64 : FloatKind.f64.decode hi64 = .number false 4503599627370496 (-32) := by decide
theorem near_whole {v : Nat} (h : isNaN v = false) (h1 : lt64 (rte (wid v)) lo64 = false) (h2 : gt64 (rte (wid v)) hi64 = false) :
    (FloatKind.f64.decode (rte (wid v))).toInt .zero = some (nearV v) ∧ -1048576 ≤ nearV v ∧ nearV v ≤ 1048576 := by
  have hn : nearV v = ((FloatKind.f64.decode (rte (wid v))).toInt .zero).getD 0 := by unfold nearV; rw [h1, h2]; rfl
  rw [hn]
  have hnn := write64_nn (integral_nn .even (wid_ok h).2)
  have o1 : (FloatKind.f64.decode (rte (wid v))).order (FloatKind.f64.decode lo64) ≠ some .lt := ne_of_beq h1
  have o2 : (FloatKind.f64.decode (rte (wid v))).order (FloatKind.f64.decode hi64) ≠ some .gt := ne_of_beq h2
  rw [rd_lo64] at o1
  rw [rd_hi64] at o2
  change (FloatKind.f64.decode (rte (wid v))).isNaN = false at hnn
  clear hn h1 h2
  cases hd : FloatKind.f64.decode (rte (wid v)) with
  | nan s t => rw [hd] at hnn; cases hnn
  | infinity s => rw [hd] at o1 o2; cases s <;> simp [Datum.order] at o1 o2
  | number s m p =>
    rw [hd] at o1 o2
    have hle := trunc_le (V := 1048576) (q := -32) (by omega) (order_scaled (.inl o1) o2)
    have e : (Datum.number s m p).toInt .zero = some (signed s (Toward.zero.cut s (m <<< p.toNat) (-p).toNat) 0) := rfl
    rw [e, cut_zero]
    refine ⟨rfl, ?_⟩
    rw [Option.getD_some, signed_pow]
    generalize (m <<< p.toNat) / 2 ^ (-p).toNat = z at hle
    cases s <;> simp <;> omega
end Go.Proofs.Ytfkiljhjiogdlaa
