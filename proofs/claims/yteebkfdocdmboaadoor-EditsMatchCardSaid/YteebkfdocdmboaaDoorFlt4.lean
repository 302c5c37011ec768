/- Singles: how great a written number reads back; magnitude and square root through doubles are told. No program in sight. -/
import Derived.Test.YteebkfdocdmboaaDoorFlt3
namespace Go.Proofs.YteebkfdocdmboaaDoor
open Go.RowKit Ieee

/-- What is kept of a number: at most two to its length. -/
theorem kept_le (s : Bool) {m : Nat} (p last : Int) (hm : m ≠ 0) : (p + m.log2 + 1 < last → Toward.even.cut s (m <<< (p - last).toNat) (last - p).toNat = 0) ∧ (last ≤ p + m.log2 + 1 → Toward.even.cut s (m <<< (p - last).toNat) (last - p).toNat ≤ 2 ^ (p + m.log2 + 1 - last).toNat) := by
  have hub : m < 2 ^ (m.log2 + 1) := Nat.lt_log2_self
  simp only [Nat.shiftLeft_eq]
  constructor
  · intro h
    rw [show (p - last).toNat = 0 by omega, Nat.pow_zero, Nat.mul_one, cut_even s m _ _ rfl, show min (last - p).toNat (m.log2 + 2) = m.log2 + 2 by omega]
    have h2 : (2 : Nat) ^ (m.log2 + 2) = 2 * 2 ^ (m.log2 + 1) := by rw [Nat.pow_succ]; omega
    have hlt : m < 2 ^ (m.log2 + 2) := by omega
    rw [Nat.div_eq_of_lt hlt, Nat.mod_eq_of_lt hlt]
    have a : decide (2 ^ (m.log2 + 2) < 2 * m) = false := decide_eq_false (by omega)
    rw [a]; simp
  · intro h
    by_cases hd : last ≤ p
    · rw [show (last - p).toNat = 0 by omega, cut_none]
      have b : m * 2 ^ (p - last).toNat < 2 ^ (m.log2 + 1) * 2 ^ (p - last).toNat := Nat.mul_lt_mul_of_pos_right hub (Nat.two_pow_pos _)
      rw [← Nat.pow_add, show m.log2 + 1 + (p - last).toNat = (p + m.log2 + 1 - last).toNat by omega] at b
      omega
    · rw [show (p - last).toNat = 0 by omega, Nat.pow_zero, Nat.mul_one, cut_even s m _ _ rfl, show min (last - p).toNat (m.log2 + 2) = (last - p).toNat by omega]
      have hlow : m / 2 ^ (last - p).toNat < 2 ^ (p + m.log2 + 1 - last).toNat := by
        rw [Nat.div_lt_iff_lt_mul (Nat.two_pow_pos _), ← Nat.pow_add, show (p + m.log2 + 1 - last).toNat + (last - p).toNat = m.log2 + 1 by omega]
        exact hub
      have hb : ∀ b : Bool, b.toNat ≤ 1 := by decide
      have := hb (decide (2 ^ (last - p).toNat < 2 * (m % 2 ^ (last - p).toNat)) || (2 ^ (last - p).toNat == 2 * (m % 2 ^ (last - p).toNat) && m / 2 ^ (last - p).toNat % 2 == 1))
      omega
theorem log2_of_le {k e : Nat} (hk : k ≠ 0) (h : k ≤ 2 ^ e) : k.log2 ≤ e := by
  have := Nat.log2_lt hk |>.2 (show k < 2 ^ (e + 1) by rw [Nat.pow_succ]; omega)
  omega
/-- A number that is written and read: at most twice as great. -/
theorem write_bound (f : Format) (hi : f.binade ≤ f.infRung) {s t : Bool} {m k : Nat} {p l : Int} (hm : m ≠ 0) (h : f.read (f.nearest s m p) = .number t k l) : k = 0 ∨ l + k.log2 ≤ p + m.log2 + 1 := by
  unfold Format.nearest at h
  rw [if_neg hm] at h
  obtain ⟨last, hlast⟩ : ∃ last, last = max (p + m.log2 - f.fractionBits) f.leastPlace := ⟨_, rfl⟩
  simp only [← hlast] at h
  obtain ⟨k1, k2⟩ := kept_le s p last hm
  generalize Toward.even.cut s (m <<< (p - last).toNat) (last - p).toNat = K at h k1 k2
  have hbe : f.binade = 2 ^ f.fractionBits := rfl
  have hb0 : 0 < f.binade := Nat.two_pow_pos _
  have hlt := f.infRung_lt
  obtain ⟨A, hA⟩ : ∃ A, A = (last - f.leastPlace).toNat * f.binade + K := ⟨_, rfl⟩
  rw [← hA] at h
  obtain ⟨R, hR⟩ : ∃ R, R = min A f.infRung := ⟨_, rfl⟩
  rw [← hR, read_word f s _ (by omega)] at h
  by_cases c1 : R < f.binade
  · rw [if_pos c1] at h
    simp only [Datum.number.injEq] at h
    obtain ⟨_, rfl, rfl⟩ := h
    have hRA : R = A := by omega
    have hz : (last - f.leastPlace).toNat = 0 := by
      rcases Nat.eq_zero_or_pos (last - f.leastPlace).toNat with h0 | h0
      · exact h0
      · have := Nat.le_mul_of_pos_left f.binade h0; omega
    rw [hz, Nat.zero_mul, Nat.zero_add] at hA
    by_cases hk : R = 0
    · exact .inl hk
    · right
      by_cases hE : p + m.log2 + 1 < last
      · have := k1 hE; omega
      · have := log2_of_le hk (by rw [hRA, hA]; exact k2 (by omega))
        omega
  · rw [if_neg c1] at h
    by_cases c2 : R < f.infRung
    · rw [if_pos c2] at h
      simp only [Datum.number.injEq] at h
      obtain ⟨_, rfl, rfl⟩ := h
      right
      have hRA : R = A := by omega
      have hmod : R % f.binade < f.binade := Nat.mod_lt _ hb0
      have hlog : (f.binade + R % f.binade).log2 = f.fractionBits := by
        have a : f.fractionBits ≤ (f.binade + R % f.binade).log2 := by rw [Nat.le_log2 (by omega), ← hbe]; omega
        have b : (f.binade + R % f.binade).log2 < f.fractionBits + 1 := by rw [Nat.log2_lt (by omega), Nat.pow_succ, ← hbe]; omega
        omega
      rw [hlog]
      have hE : last ≤ p + m.log2 + 1 := by
        rcases Int.lt_or_le (p + m.log2 + 1) last with hE | hE
        · exfalso
          have hK := k1 hE
          have : (last - f.leastPlace).toNat = 0 := by omega
          rw [this, hK] at hA
          omega
        · exact hE
      have hK := k2 hE
      have hdiv : R / f.binade * f.binade ≤ R := Nat.div_mul_le_self _ _
      by_cases hg : f.leastPlace < last
      · have hE2 : (p + m.log2 + 1 - last).toNat = f.fractionBits + 1 := by omega
        rw [hE2, Nat.pow_succ, ← hbe] at hK
        have : R / f.binade < (last - f.leastPlace).toNat + 3 := by
          rw [Nat.div_lt_iff_lt_mul hb0, hRA, hA, Nat.add_mul]
          omega
        omega
      · have hz : (last - f.leastPlace).toNat = 0 := by omega
        rw [hz, Nat.zero_mul, Nat.zero_add] at hA
        have hE3 : (p + m.log2 + 1 - last).toNat ≤ f.fractionBits + 1 := by omega
        have hfE : f.fractionBits ≤ (p + m.log2 + 1 - last).toNat := by
          rcases Nat.lt_or_ge (p + m.log2 + 1 - last).toNat f.fractionBits with h1 | h1
          · exfalso
            have := Nat.pow_lt_pow_right (show 1 < 2 by omega) h1
            omega
          · exact h1
        rcases (by omega : (p + m.log2 + 1 - last).toNat = f.fractionBits ∨ (p + m.log2 + 1 - last).toNat = f.fractionBits + 1) with h1 | h1
        · rw [h1, ← hbe] at hK
          have : R = f.binade := by omega
          rw [this, Nat.div_self hb0]
          omega
        · rw [h1, Nat.pow_succ, ← hbe] at hK
          have : R / f.binade < 3 := by rw [Nat.div_lt_iff_lt_mul hb0]; omega
          omega
    · rw [if_neg c2] at h
      split at h <;> cases h
/-- What is not too great for a format is a number of it. -/
theorem finite_gen (f : Format) (s : Bool) (m : Nat) (p : Int) (hi : f.binade ≤ f.infRung) (h : m = 0 ∨ (p + m.log2 - f.fractionBits - f.leastPlace).toNat * f.binade + 2 * f.binade < f.infRung) : ∃ k l, f.read (f.nearest s m p) = .number s k l := by
  by_cases hm : m = 0
  · subst hm; exact ⟨_, _, nearest_zero _ _ _⟩
  have h : (p + m.log2 - f.fractionBits - f.leastPlace).toNat * f.binade + 2 * f.binade < f.infRung := by
    rcases h with h | h
    · exact absurd h hm
    · exact h
  unfold Format.nearest
  rw [if_neg hm]
  obtain ⟨last, hlast⟩ : ∃ last, last = max (p + m.log2 - f.fractionBits) f.leastPlace := ⟨_, rfl⟩
  simp only [← hlast]
  obtain ⟨k1, k2⟩ := kept_le s p last hm
  generalize Toward.even.cut s (m <<< (p - last).toNat) (last - p).toNat = K at k1 k2
  have hbe : f.binade = 2 ^ f.fractionBits := rfl
  have hb0 : 0 < f.binade := Nat.two_pow_pos _
  have hK : K ≤ 2 * f.binade := by
    rcases Int.lt_or_le (p + m.log2 + 1) last with hE | hE
    · rw [k1 hE]; omega
    · have h1 := k2 hE
      have h2 : (2 : Nat) ^ (p + m.log2 + 1 - last).toNat ≤ 2 ^ (f.fractionBits + 1) := Nat.pow_le_pow_right (by omega) (by omega)
      rw [Nat.pow_succ, ← hbe] at h2
      omega
  have hL : (last - f.leastPlace).toNat = (p + m.log2 - f.fractionBits - f.leastPlace).toNat := by omega
  rw [hL]
  generalize (p + m.log2 - f.fractionBits - f.leastPlace).toNat * f.binade = Q at h
  have hlt := f.infRung_lt
  rw [Nat.min_eq_left (by omega), read_word f s _ (by omega)]
  split
  · exact ⟨_, _, rfl⟩
  · rw [if_pos (by omega)]
    exact ⟨_, _, rfl⟩
theorem narrow_ok {x : Nat} {s : Bool} {k : Nat} {l : Int} (h : FloatKind.f64.decode x = .number s k l) (hb : k = 0 ∨ l + k.log2 ≤ 126) : ∃ r, floatToFloatBits .f64 x .f32 = some r ∧ ∃ k' l', rd r = .number s k' l' := by
  obtain ⟨k', l', hr⟩ := finite_write s k l hb
  refine ⟨FloatKind.f32.encode (.number s k l), ?_, k', l', hr⟩
  unfold floatToFloatBits
  rw [if_neg (by decide), h]
  have hr2 : FloatKind.f32.decode (FloatKind.f32.encode (.number s k l)) = .number s k' l' := hr
  simp only [hr2]
  rfl
theorem abs_bits (r : Nat) : (bits .andNot .u64 (r : Int) 9223372036854775808).toNat = r % 9223372036854775808 := by
  have hc : ~~~(BitVec.ofInt 64 9223372036854775808) = BitVec.ofNat 64 (2 ^ 63 - 1) := by decide
  have hx : ((BitVec.ofInt 64 (r : Int)) &&& ~~~(BitVec.ofInt 64 9223372036854775808)).toNat = r % 9223372036854775808 := by
    rw [hc, BitVec.toNat_and, BitVec.toNat_ofNat, BitVec.ofInt_natCast, BitVec.toNat_ofNat, Nat.mod_eq_of_lt (show 2 ^ 63 - 1 < 2 ^ 64 by decide), Nat.and_two_pow_sub_one_eq_mod]
    omega
  have hw : bits .andNot .u64 (r : Int) 9223372036854775808 = IntKind.u64.wrap (((BitVec.ofInt 64 (r : Int)) &&& ~~~(BitVec.ofInt 64 9223372036854775808)).toNat : Int) := rfl
  rw [hw, hx]
  have : IntKind.u64.wrap ((r % 9223372036854775808 : Nat) : Int) = ((r % 9223372036854775808 : Nat) : Int) := by
    show ((r % 9223372036854775808 : Nat) : Int) % 18446744073709551616 = _
    omega
  rw [this]; rfl
theorem read_abs {r : Nat} {s : Bool} {k : Nat} {l : Int} (h : FloatKind.f64.decode r = .number s k l) : FloatKind.f64.decode (r % 9223372036854775808) = .number false k l := by
  have hs : FloatKind.f64.format.signWeight = 9223372036854775808 := by decide
  unfold FloatKind.decode Format.read at h ⊢
  rw [hs] at h ⊢
  simp only [Nat.mod_mod] at h ⊢
  have hn : (r % 9223372036854775808 / 9223372036854775808 % 2 == 1) = false := by rw [Nat.div_eq_of_lt (Nat.mod_lt _ (by omega))]; rfl
  rw [hn]
  split at h
  · rename_i c; rw [if_pos c]; cases h; rfl
  · rename_i c
    rw [if_neg c]
    split at h
    · rename_i c2; rw [if_pos c2]; cases h; rfl
    · split at h <;> cases h
/-- The magnitude of a single (through doubles, behind Clean). -/
def absF (b : Nat) : Nat := canon (((floatToFloatBits .f32 b .f64).bind fun r1 => floatToFloatBits .f64 (bits .andNot .u64 r1 9223372036854775808).toNat .f32).getD 0)
theorem abs_ok {b : Nat} {s : Bool} {m : Nat} {i : Int} (h : rd b = .number s m i) (hb : m = 0 ∨ i + m.log2 ≤ 126) : ∃ r1 r3, floatToFloatBits .f32 b .f64 = some r1 ∧ floatToFloatBits .f64 (bits .andNot .u64 r1 9223372036854775808).toNat .f32 = some r3 ∧ canon r3 = absF b ∧ ∃ k l, rd (absF b) = .number false k l := by
  obtain ⟨r1, k, l, e1, e2, e3, _, e5⟩ := widen b s m i h
  have e6 := read_abs e2
  rw [← abs_bits] at e6
  have hk : k = 0 ∨ l + k.log2 ≤ 126 := by
    rcases hb with h0 | h0
    · left; rw [e5, h0, Nat.zero_mul]
    · by_cases hm : m = 0
      · left; rw [e5, hm, Nat.zero_mul]
      · right; rw [e5, log2_mul_pow _ hm]; omega
  obtain ⟨r3, e7, k', l', e8⟩ := narrow_ok e6 hk
  have hc : canon r3 = r3 := canon_of_num (by rw [isNaN_iff, e8]; rfl)
  have ha : absF b = r3 := by unfold absF; rw [e1, Option.bind_some, e7, Option.getD_some, hc]
  exact ⟨r1, r3, e1, e7, by rw [ha, hc], k', l', by rw [ha]; exact e8⟩
theorem rootFrom_le (n todo root : Nat) (h : root * root ≤ n) : Datum.rootFrom n todo root * Datum.rootFrom n todo root ≤ n := by
  induction todo generalizing root with
  | zero => exact h
  | succ t ih =>
    unfold Datum.rootFrom
    apply ih
    split
    · assumption
    · exact h
/-- The square root of a single (through doubles, behind Clean). -/
def rootF (b : Nat) : Nat := canon (((floatToFloatBits .f32 b .f64).bind fun r1 => (FloatKind.f64.format.sqrt r1).bind fun r2 => floatToFloatBits .f64 r2 .f32).getD 0)
theorem root_ok {b : Nat} (h : (∃ m i, rd b = .number false m i) ∨ rd b = .infinity false) : ∃ r1 r2 r3, floatToFloatBits .f32 b .f64 = some r1 ∧ FloatKind.f64.format.sqrt r1 = some r2 ∧ floatToFloatBits .f64 r2 .f32 = some r3 ∧ canon r3 = rootF b ∧ isNaN (rootF b) = false := by
  rcases h with ⟨m, i, h⟩ | h
  · obtain ⟨r1, k, l, e1, e2, e3, e4, e5⟩ := widen b false m i h
    obtain ⟨hm1, hm2, hm3⟩ := read_bd h
    have hkl : k = 0 ∨ l + k.log2 ≤ 127 := by
      by_cases hm : m = 0
      · left; rw [e5, hm, Nat.zero_mul]
      · right
        have : m.log2 ≤ 23 := log2_le (by omega)
        rw [e5, log2_mul_pow _ hm]; omega
    have hd : ∃ M P, Datum.root 54 (.number false k l) = some (.number false M P) ∧ (M = 0 ∨ P + M.log2 ≤ 66) := by
      by_cases hk : k = 0
      · exact ⟨0, l, by rw [hk]; rfl, .inl rfl⟩
      · have hkl2 : l + k.log2 ≤ 127 := by rcases hkl with h | h; · exact absurd h hk
                                           · exact h
        simp only [Datum.root, if_neg hk, Bool.false_eq_true, if_false]
        obtain ⟨more, hmore⟩ : ∃ more, more = 2 * 54 - k.log2 + ((l - (2 * 54 - k.log2 : Nat)) % 2).toNat := ⟨_, rfl⟩
        rw [← hmore]
        have hpar : (l - (more : Int)) % 2 = 0 := by omega
        refine ⟨_, _, rfl, ?_⟩
        rw [Nat.shiftLeft_eq]
        obtain ⟨w, hw⟩ : ∃ w, w = Datum.rootFrom (k * 2 ^ more) ((k * 2 ^ more).log2 / 2 + 1) 0 := ⟨_, rfl⟩
        have hle : w * w ≤ k * 2 ^ more := by rw [hw]; exact rootFrom_le _ _ 0 (by omega)
        rw [← hw]
        have hbit : ∀ b : Bool, b.toNat ≤ 1 := by decide
        have hb1 := hbit (w * w != k * 2 ^ more)
        generalize (w * w != k * 2 ^ more).toNat = c at hb1
        by_cases hw0 : w = 0
        · right
          have : (2 * w + c).log2 ≤ 0 := log2_le (by omega)
          omega
        · right
          have h1 : 2 ^ w.log2 ≤ w := Nat.log2_self_le hw0
          have h2 : 2 ^ (2 * w.log2) ≤ k * 2 ^ more := by
            have := Nat.mul_le_mul h1 h1
            rw [← Nat.pow_add] at this
            rw [show 2 * w.log2 = w.log2 + w.log2 by omega]
            omega
          have h3 : 2 * w.log2 ≤ k.log2 + more := by
            rw [← log2_mul_pow more hk]
            exact (Nat.le_log2 (Nat.mul_ne_zero hk (Nat.ne_of_gt (Nat.two_pow_pos more)))).2 h2
          have h4 : (2 * w + c).log2 ≤ w.log2 + 1 := by
            have : w < 2 ^ (w.log2 + 1) := Nat.lt_log2_self
            refine log2_le ?_
            rw [Nat.pow_succ]; omega
          omega
    obtain ⟨M, P, hd1, hd2⟩ := hd
    have hsq : FloatKind.f64.format.sqrt r1 = some (FloatKind.f64.format.nearest false M P) := by
      show ((FloatKind.f64.format.read r1).root (52 + 2)).map FloatKind.f64.format.write = _
      have e2' : FloatKind.f64.format.read r1 = .number false k l := e2
      rw [e2', hd1]; rfl
    have hi64 : FloatKind.f64.format.binade ≤ FloatKind.f64.format.infRung := by rw [f64_binade, f64_inf]; decide
    obtain ⟨k2, l2, hr2⟩ := finite_gen FloatKind.f64.format false M P hi64 (by
      rcases hd2 with h0 | h0
      · exact .inl h0
      · right
        rw [f64_binade, f64_inf, f64_least, f64_frac]
        have : (P + M.log2 - (52 : Nat) - -1074).toNat ≤ 1090 := by omega
        have := Nat.mul_le_mul_right 4503599627370496 this
        omega)
    have hb2 : k2 = 0 ∨ l2 + k2.log2 ≤ 126 := by
      rcases hd2 with h0 | h0
      · left
        rw [h0] at hr2
        have := nearest_zero FloatKind.f64.format false P
        rw [this] at hr2
        cases hr2; rfl
      · by_cases hM : M = 0
        · left
          rw [hM] at hr2
          have := nearest_zero FloatKind.f64.format false P
          rw [this] at hr2
          cases hr2; rfl
        · rcases write_bound FloatKind.f64.format hi64 hM hr2 with h1 | h1
          · exact .inl h1
          · right; omega
    obtain ⟨r3, e7, k', l', e8⟩ := narrow_ok (x := FloatKind.f64.format.nearest false M P) hr2 hb2
    have hc : canon r3 = r3 := canon_of_num (by rw [isNaN_iff, e8]; rfl)
    have ha : rootF b = r3 := by unfold rootF; rw [e1, Option.bind_some, hsq, Option.bind_some, e7, Option.getD_some, hc]
    exact ⟨r1, _, r3, e1, hsq, e7, by rw [ha, hc], by rw [ha, isNaN_iff, e8]; rfl⟩
  · have e1 : floatToFloatBits .f32 b .f64 = some (FloatKind.f64.encode (.infinity false)) := by
      have hd : FloatKind.f32.decode b = .infinity false := h
      unfold floatToFloatBits
      rw [if_neg (by decide), hd]
    have e2 : FloatKind.f64.format.sqrt (FloatKind.f64.encode (.infinity false)) = some (FloatKind.f64.encode (.infinity false)) := by decide
    have e3 : floatToFloatBits .f64 (FloatKind.f64.encode (.infinity false)) .f32 = some 2139095040 := by decide
    have hc : canon 2139095040 = 2139095040 := by decide
    have ha : rootF b = 2139095040 := by unfold rootF; rw [e1, Option.bind_some, e2, Option.bind_some, e3, Option.getD_some, hc]
    exact ⟨_, _, _, e1, e2, e3, by rw [ha, hc], by rw [ha]; decide⟩
end Go.Proofs.YteebkfdocdmboaaDoor
