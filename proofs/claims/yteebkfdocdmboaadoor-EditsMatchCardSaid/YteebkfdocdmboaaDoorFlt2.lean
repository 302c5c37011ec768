/- The share of a bin, times the bins: not below nought; its whole part. No program in sight. -/
import Derived.Test.YteebkfdocdmboaaDoorFlt
namespace Go.Proofs.YteebkfdocdmboaaDoor
open Go.RowKit Ieee

/-- Without a minus (or a NaN). -/
def PN (d : Datum) : Prop := match d with | .number s _ _ => s = false | .infinity s => s = false | .nan _ _ => True

theorem read_nearest (f : Format) (s : Bool) (m : Nat) (p : Int) : (∃ k l, f.read (f.nearest s m p) = .number s k l ∧ (m = 0 → k = 0)) ∨ f.read (f.nearest s m p) = .infinity s := by
  by_cases hm : m = 0
  · subst hm; exact .inl ⟨0, _, nearest_zero f s p, fun _ => rfl⟩
  · unfold Format.nearest
    rw [if_neg hm]
    simp only
    generalize hr : min _ f.infRung = r
    have h1 : r ≤ f.infRung := by rw [← hr]; exact Nat.min_le_right _ _
    have hlt := f.infRung_lt
    rw [read_word f s r (by omega)]
    split
    · exact .inl ⟨_, _, rfl, fun h => absurd h hm⟩
    · split
      · exact .inl ⟨_, _, rfl, fun h => absurd h hm⟩
      · rw [if_pos (by omega)]; exact .inr rfl
theorem f32_inf : FloatKind.f32.format.infRung = 2139095040 := by decide
theorem f32_binade : FloatKind.f32.format.binade = 8388608 := by decide
theorem read_inf (s : Bool) : FloatKind.f32.format.read (FloatKind.f32.format.word s FloatKind.f32.format.infRung) = .infinity s := by
  rw [read_word _ s _ FloatKind.f32.format.infRung_lt, f32_inf, f32_binade, if_neg (by omega), if_neg (by omega), if_pos rfl]

theorem NN_write {d : Datum} (h : NN d) : NN (rd (FloatKind.f32.format.write d)) ∨ ∃ s t, d = .nan s t := by
  cases d with
  | number s m p =>
    left
    rcases read_nearest FloatKind.f32.format s m p with ⟨k, l, h1, h2⟩ | h1
    · show NN (FloatKind.f32.format.read (FloatKind.f32.format.nearest s m p))
      rw [h1]
      exact h.imp id h2
    · show NN (FloatKind.f32.format.read (FloatKind.f32.format.nearest s m p))
      rcases h with h | h
      · rw [h1]; exact h
      · subst h; rw [nearest_zero] at h1; cases h1
  | infinity s => left; show NN (FloatKind.f32.format.read (FloatKind.f32.format.word s FloatKind.f32.format.infRung)); rw [read_inf]; exact h
  | nan s t => exact .inr ⟨s, t, rfl⟩
theorem PN_write {d : Datum} (h : PN d) : PN (rd (FloatKind.f32.format.write d)) ∨ ∃ s t, d = .nan s t := by
  cases d with
  | number s m p =>
    left
    show PN (FloatKind.f32.format.read (FloatKind.f32.format.nearest s m p))
    rcases read_nearest FloatKind.f32.format s m p with ⟨k, l, h1, h2⟩ | h1
    · rw [h1]; exact h
    · rw [h1]; exact h
  | infinity s => left; show PN (FloatKind.f32.format.read (FloatKind.f32.format.word s FloatKind.f32.format.infRung)); rw [read_inf]; exact h
  | nan s t => exact .inr ⟨s, t, rfl⟩

theorem signed_not (t : Bool) (n k : Nat) : signed (!t) n k = - signed t n k := by cases t <;> simp [signed]

theorem cmp_ge {a b : Int} (h : compare a b ≠ .lt) : b ≤ a := by
  rw [Int.compare_eq_ite_lt] at h
  split at h
  · exact absurd rfl h
  · omega
theorem cmp_lt {a b : Int} (h : compare a b = .lt) : a < b := by
  rw [Int.compare_eq_ite_lt] at h
  split at h
  · assumption
  · split at h <;> cases h

/-- What lies not below a number, less that number. -/
theorem sub_sum_NN {v l d : Datum} (hl : ∃ t n j, l = .number t n j) (h : v.order l = some .gt ∨ v.order l = some .eq) (hd : v.sum l.opposite = some d) : NN d := by
  obtain ⟨t, n, j, rfl⟩ := hl
  cases v with
  | nan s f => simp [Datum.order] at h
  | infinity s =>
    simp only [Datum.opposite, Datum.sum, Option.some.injEq] at hd
    subst hd
    cases s
    · rfl
    · simp [Datum.order] at h
  | number s m i =>
    simp only [Datum.opposite, Datum.sum, Option.some.injEq] at hd
    simp only [Datum.order, Option.some.injEq] at h
    have hge := cmp_ge (a := signed s m (i - min i j).toNat) (b := signed t n (j - min i j).toNat) (by rcases h with h | h <;> rw [h] <;> decide)
    rw [signed_not] at hd
    subst hd
    show _ = false ∨ _ = 0
    generalize signed s m (i - min i j).toNat = A at *
    generalize signed t n (j - min i j).toNat = B at *
    by_cases h0 : A + -B = 0
    · right; rw [h0]; rfl
    · left; rw [if_neg h0]; simp; omega
theorem sub_sum_PN {v l d : Datum} (hv : ∃ s m i, v = .number s m i) (hl : ∃ t n j, l = .number t n j) (h : l.order v = some .lt) (hd : v.sum l.opposite = some d) : PN d := by
  obtain ⟨s, m, i, rfl⟩ := hv
  obtain ⟨t, n, j, rfl⟩ := hl
  simp only [Datum.opposite, Datum.sum, Option.some.injEq] at hd
  simp only [Datum.order, Option.some.injEq] at h
  have hlt := cmp_lt h
  rw [Int.min_comm j i] at hlt
  rw [signed_not] at hd
  subst hd
  show _ = false
  generalize signed s m (i - min i j).toNat = A at *
  generalize signed t n (j - min i j).toNat = B at *
  rw [if_neg (by omega)]
  simp; omega
theorem sum_not_nan {a b d : Datum} (h : a.sum b = some d) : ¬ ∃ s t, d = .nan s t := by
  rintro ⟨s, t, rfl⟩
  cases a <;> cases b <;> simp [Datum.sum] at h
theorem quotient_not_nan {g : Nat} {a b d : Datum} (h : a.quotient g b = some d) : ¬ ∃ s t, d = .nan s t := by
  rintro ⟨s, t, rfl⟩
  cases a <;> cases b <;> simp [Datum.quotient] at h
  split at h
  · split at h <;> simp at h
  · simp at h
theorem product_not_nan {a b d : Datum} (h : a.product b = some d) : ¬ ∃ s t, d = .nan s t := by
  rintro ⟨s, t, rfl⟩
  cases a <;> cases b <;> simp [Datum.product] at h
theorem quot_NN {g : Nat} {a b d : Datum} (ha : NN a) (hb : PN b) (h : a.quotient g b = some d) : NN d := by
  cases a with
  | nan s f => simp [Datum.quotient] at h
  | infinity s =>
    cases b with
    | nan => simp [Datum.quotient] at h
    | infinity => simp [Datum.quotient] at h
    | number t n j =>
      simp only [Datum.quotient, Option.some.injEq] at h
      subst h
      have h1 : s = false := ha
      have h2 : t = false := hb
      subst h1 h2; rfl
  | number s m i =>
    cases b with
    | nan => simp [Datum.quotient] at h
    | infinity t =>
      simp only [Datum.quotient, Option.some.injEq] at h
      subst h
      exact .inr rfl
    | number t n j =>
      have h2 : t = false := hb
      subst h2
      simp only [Datum.quotient] at h
      split at h
      · split at h
        · cases h
        · rename_i hm
          simp only [Option.some.injEq] at h
          subst h
          rcases ha with h1 | h1
          · subst h1; rfl
          · exact absurd h1 hm
      · simp only [Option.some.injEq] at h
        subst h
        rcases ha with h1 | h1
        · subst h1; exact .inl rfl
        · subst h1; right; simp
theorem prod_NN {a b d : Datum} (ha : NN a) (hb : ∃ n j, b = .number false n j) (h : a.product b = some d) : NN d := by
  obtain ⟨n, j, rfl⟩ := hb
  cases a with
  | nan s f => simp [Datum.product] at h
  | infinity s =>
    have h1 : s = false := ha
    subst h1
    simp only [Datum.product] at h
    split at h
    · cases h
    · simp only [Option.some.injEq] at h
      subst h; rfl
  | number s m i =>
    simp only [Datum.product, Option.some.injEq] at h
    subst h
    rcases ha with h1 | h1
    · subst h1; exact .inl rfl
    · subst h1; right; simp

theorem NN_theNaN : NN (rd theNaN) := by
  have h : rd theNaN = .nan false 4194304 := by decide
  rw [h]; trivial
theorem PN_theNaN : PN (rd theNaN) := by
  have h : rd theNaN = .nan false 4194304 := by decide
  rw [h]; trivial
theorem NN_fop {op : BinOp} {x y : Nat} (h : ∀ r, floatBits op .f32 x y = some r → NN (rd r)) : NN (rd (fop op x y)) := by
  unfold fop
  cases hf : floatBits op .f32 x y with
  | none => exact NN_theNaN
  | some r =>
    show NN (rd (canon r))
    unfold canon
    split
    · exact NN_theNaN
    · exact h r hf
theorem PN_fop {op : BinOp} {x y : Nat} (h : ∀ r, floatBits op .f32 x y = some r → PN (rd r)) : PN (rd (fop op x y)) := by
  unfold fop
  cases hf : floatBits op .f32 x y with
  | none => exact PN_theNaN
  | some r =>
    show PN (rd (canon r))
    unfold canon
    split
    · exact PN_theNaN
    · exact h r hf
theorem map_some {d : Option Datum} {r : Nat} (h : d.map FloatKind.f32.format.write = some r) : ∃ x, d = some x ∧ r = FloatKind.f32.format.write x := by
  cases d with
  | none => cases h
  | some x => exact ⟨x, rfl, by simpa using h.symm⟩

/-- The share of a bin, times the bins. -/
def binT (lo hi v : Nat) (n : Int) : Nat := fop .mul (fop .quo (fop .sub v lo) (fop .sub hi lo)) (floatOfInt .f32 n)

theorem isNum_rd {b : Nat} (h : isNum b = true) : ∃ s m i, rd b = .number s m i := by
  unfold isNum at h
  cases hb : rd b with
  | number s m i => exact ⟨s, m, i, rfl⟩
  | infinity s => rw [hb] at h; cases h
  | nan s t => rw [hb] at h; cases h
theorem ofInt_rd {n : Nat} (hn : n < 1025) : ∃ k p, rd (floatOfInt .f32 (n : Int)) = .number false k p ∧ p ≤ 0 ∧ -149 ≤ p ∧ k = n * 2 ^ (-p).toNat := by
  have h := small_int n hn
  revert h
  cases hr : rd (floatOfInt .f32 (n : Int)) with
  | infinity => intro h; cases h
  | nan => intro h; cases h
  | number s k p =>
    intro h
    simp only [Bool.and_eq_true, beq_iff_eq, decide_eq_true_eq] at h
    obtain ⟨⟨⟨rfl, h1⟩, h2⟩, h3⟩ := h
    exact ⟨k, p, rfl, h1, h2, h3⟩
theorem binT_NN {lo hi v n : Nat} (hlo : isNum lo = true) (hhi : isNum hi = true) (hn : n < 1025) (h1 : FloatKind.f32.format.order v lo = some .gt ∨ FloatKind.f32.format.order v lo = some .eq) (h2 : FloatKind.f32.format.order lo hi = some .lt) : NN (rd (binT lo hi v n)) := by
  have L := isNum_rd hlo
  have Hh := isNum_rd hhi
  have A : NN (rd (fop .sub v lo)) := NN_fop fun r hr => by
    obtain ⟨x, e1, rfl⟩ := map_some (d := (rd v).sum (rd lo).opposite) hr
    exact (NN_write (sub_sum_NN L h1 e1)).resolve_right (sum_not_nan e1)
  have Bp : PN (rd (fop .sub hi lo)) := PN_fop fun r hr => by
    obtain ⟨x, e1, rfl⟩ := map_some (d := (rd hi).sum (rd lo).opposite) hr
    exact (PN_write (sub_sum_PN Hh L h2 e1)).resolve_right (sum_not_nan e1)
  have Q : NN (rd (fop .quo (fop .sub v lo) (fop .sub hi lo))) := NN_fop fun r hr => by
    obtain ⟨x, e1, rfl⟩ := map_some (d := (rd (fop .sub v lo)).quotient 25 (rd (fop .sub hi lo))) hr
    exact (NN_write (quot_NN A Bp e1)).resolve_right (quotient_not_nan e1)
  obtain ⟨k, p, hk, _⟩ := ofInt_rd hn
  exact NN_fop fun r hr => by
    obtain ⟨x, e1, rfl⟩ := map_some (d := (rd (fop .quo (fop .sub v lo) (fop .sub hi lo))).product (rd (floatOfInt .f32 (n : Int)))) hr
    exact (NN_write (prod_NN Q ⟨k, p, hk⟩ e1)).resolve_right (product_not_nan e1)

/-- The whole part of a small single. -/
def wholeOf (T : Nat) : Nat := match floatToFloatBits .f32 T .f64 with
  | some r => (match (FloatKind.f64.decode r).integral .down with | .number _ q _ => q | _ => 0)
  | none => 0

theorem cut_down_pos (n drop : Nat) : Toward.down.cut false n drop = n / 2 ^ min drop (n.log2 + 2) := by
  unfold Toward.cut
  simp only [Bool.false_and, Bool.toNat_false, Nat.add_zero, Nat.shiftLeft_eq, Nat.one_mul]
theorem cut_down_zero (s : Bool) (drop : Nat) : Toward.down.cut s 0 drop = 0 := by
  unfold Toward.cut
  simp

theorem whole_small {T n : Nat} (hn : n < 1025) (hT : NN (rd T)) (hlt : FloatKind.f32.format.order T (floatOfInt .f32 (n : Int)) = some .lt) :
    ∃ r1 s k l r3, floatToFloatBits .f32 T .f64 = some r1 ∧ FloatKind.f64.decode r1 = .number s k l ∧ (Datum.number s k l).integral .down = .number s (wholeOf T) 0 ∧ floatToFloatBits .f64 (FloatKind.f64.encode (.number s (wholeOf T) 0)) .f32 = some r3 ∧ floatToIntVal .f32 r3 .i64 = some (wholeOf T : Int) ∧ wholeOf T < n := by
  obtain ⟨k2, p, hk, hp1, hp2, hkn⟩ := ofInt_rd hn
  have ho : (rd T).order (.number false k2 p) = some .lt := by rw [← hk]; exact hlt
  cases hr : rd T with
  | nan s t => rw [hr] at ho; simp [Datum.order] at ho
  | infinity s =>
    rw [hr] at hT ho
    have h1 : s = false := hT
    subst h1
    simp [Datum.order] at ho
  | number s m i =>
    rw [hr] at hT ho
    obtain ⟨r1, k, l, e1, e2, hl1, hl2, hkm⟩ := widen T s m i hr
    have hw : wholeOf T = Toward.down.cut s (k <<< l.toNat) (-l).toNat := by unfold wholeOf; rw [e1]; simp only [e2]; rfl
    have hint : (Datum.number s k l).integral .down = .number s (wholeOf T) 0 := by rw [hw]; rfl
    simp only [Datum.order, Option.some.injEq] at ho
    have hlt' := cmp_lt ho
    have fin : (s = false ∨ wholeOf T = 0) → wholeOf T < 1024 → ∃ r3, floatToFloatBits .f64 (FloatKind.f64.encode (.number s (wholeOf T) 0)) .f32 = some r3 ∧ floatToIntVal .f32 r3 .i64 = some (wholeOf T : Int) := by
      intro hs hq
      have h1 : (floatToFloatBits .f64 (FloatKind.f64.encode (.number s (wholeOf T) 0)) .f32).bind (fun r => floatToIntVal .f32 r .i64) = some (wholeOf T : Int) := by
        cases s
        · exact small_whole _ hq
        · rcases hs with h | h
          · cases h
          · rw [h]; exact small_zero
      obtain ⟨r3, h2, h3⟩ := Option.bind_eq_some_iff.1 h1
      exact ⟨r3, h2, h3⟩
    by_cases hm : m = 0
    · subst hm
      have hk0 : k = 0 := by rw [hkm]; simp
      have hw0 : wholeOf T = 0 := by rw [hw, hk0, Nat.zero_shiftLeft, cut_down_zero]
      obtain ⟨r3, h2, h3⟩ := fin (.inr hw0) (by omega)
      refine ⟨r1, s, k, l, r3, e1, e2, hint, h2, h3, ?_⟩
      by_cases hn0 : n = 0
      · subst hn0
        have hk2 : k2 = 0 := by rw [hkn]; simp
        rw [hk2] at hlt'
        cases s <;> simp [signed] at hlt'
      · omega
    · have hs : s = false := by rcases hT with h | h; exact h; exact absurd h hm
      subst hs
      have h4 : signed false m (i - min i p).toNat = ((m * 2 ^ (i - min i p).toNat : Nat) : Int) := by simp [signed, Nat.shiftLeft_eq]
      have h5 : signed false k2 (p - min i p).toNat = ((k2 * 2 ^ (p - min i p).toNat : Nat) : Int) := by simp [signed, Nat.shiftLeft_eq]
      rw [h4, h5] at hlt'
      have h6 : m * 2 ^ (i - min i p).toNat < n * 2 ^ (-min i p).toNat := by
        have : k2 * 2 ^ (p - min i p).toNat = n * 2 ^ (-min i p).toNat := by
          rw [hkn, Nat.mul_assoc, ← Nat.pow_add]
          congr 2
          omega
        omega
      have hq : wholeOf T < n := by
        rw [hw, cut_down_pos, hkm]
        by_cases hl0 : 0 ≤ l
        · rw [show (-l).toNat = 0 by omega, Nat.zero_min, Nat.pow_zero, Nat.div_one, Nat.shiftLeft_eq, Nat.mul_assoc, ← Nat.pow_add]
          rw [show (i - l).toNat + l.toNat = i.toNat by omega]
          have h7 : m * 2 ^ i.toNat * 2 ^ (-min i p).toNat < n * 2 ^ (-min i p).toNat := by
            rw [Nat.mul_assoc, ← Nat.pow_add, show i.toNat + (-min i p).toNat = (i - min i p).toNat by omega]
            exact h6
          exact Nat.lt_of_mul_lt_mul_right h7
        · rw [show l.toNat = 0 by omega, Nat.shiftLeft_zero]
          rcases Nat.le_total (-l).toNat ((m * 2 ^ (i - l).toNat).log2 + 2) with hc | hc
          · rw [Nat.min_eq_left hc, Nat.div_lt_iff_lt_mul (Nat.two_pow_pos _)]
            -- scale both sides by a common power
            have h7 : m * 2 ^ (i - l).toNat * 2 ^ (-min i p).toNat < n * 2 ^ (-l).toNat * 2 ^ (-min i p).toNat := by
              have e3 : m * 2 ^ (i - l).toNat * 2 ^ (-min i p).toNat = m * 2 ^ (i - min i p).toNat * 2 ^ (-l).toNat := by
                rw [Nat.mul_assoc, Nat.mul_assoc, ← Nat.pow_add, ← Nat.pow_add]
                congr 2
                omega
              have e4 : n * 2 ^ (-l).toNat * 2 ^ (-min i p).toNat = n * 2 ^ (-min i p).toNat * 2 ^ (-l).toNat := by
                rw [Nat.mul_assoc, Nat.mul_assoc, Nat.mul_comm (2 ^ (-l).toNat)]
              rw [e3, e4]
              exact Nat.mul_lt_mul_of_pos_right h6 (Nat.two_pow_pos _)
            exact Nat.lt_of_mul_lt_mul_right h7
          · rw [Nat.min_eq_right hc]
            have h8 : m * 2 ^ (i - l).toNat < 2 ^ ((m * 2 ^ (i - l).toNat).log2 + 2) := by
              have g := Nat.lt_log2_self (n := m * 2 ^ (i - l).toNat)
              rw [Nat.pow_succ] at g ⊢
              omega
            rw [Nat.div_eq_of_lt h8]
            rcases Nat.eq_zero_or_pos n with h0 | h0
            · subst h0; omega
            · exact h0
      obtain ⟨r3, h2, h3⟩ := fin (.inl rfl) (by omega)
      exact ⟨r1, false, k, l, r3, e1, e2, hint, h2, h3, hq⟩
end Go.Proofs.YteebkfdocdmboaaDoor
