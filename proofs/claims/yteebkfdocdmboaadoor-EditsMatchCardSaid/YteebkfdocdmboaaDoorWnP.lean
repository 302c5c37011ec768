/- What a window has at a place, plainly: no NaN comes of it. No program in sight. -/
import Derived.Test.YteebkfdocdmboaaDoorFlt4
namespace Go.Proofs.YteebkfdocdmboaaDoor
open Go.RowKit Ieee

def ltF (a b : Nat) : Bool := FloatKind.f32.format.order a b == some .lt
def gtF (a b : Nat) : Bool := FloatKind.f32.format.order a b == some .gt
def oneB : Nat := 1065353216
def twoB : Nat := 1073741824
def threeB : Nat := 1077936128
def lim01 (t : Nat) : Nat := if ltF t 0 then 0 else if gtF t oneB then oneB else canon t
def smB (t : Nat) : Nat := fop .mul (fop .mul (lim01 t) (lim01 t)) (fop .sub threeB (fop .mul twoB (lim01 t)))
def fadeB (d soft : Nat) : Nat := if ltF d soft then fop .sub oneB (smB (fop .quo d soft)) else 0
def edgeB (d soft : Nat) : Nat := if gtF d 0 then fadeB d soft else oneB
def boxD (dx dy W H : Nat) : Nat := if gtF (fop .sub (absF dy) H) (fop .sub (absF dx) W) then fop .sub (absF dy) H else fop .sub (absF dx) W
def ellQ (dx dy W H : Nat) : Nat := rootF (fop .add (fop .mul (fop .quo dx W) (fop .quo dx W)) (fop .mul (fop .quo dy H) (fop .quo dy H)))
def ellV (q W H S : Nat) : Nat := if gtF q oneB then edgeB (fop .mul (fop .sub q oneB) (if ltF H W then H else W)) S else oneB
/-- kind 1: a box; 2: an ellipse; else a polygon (odd: the places within). -/
def covV (kind : Int) (dx dy W H S : Nat) (odd : Bool) : Nat :=
  if kind = 1 then edgeB (boxD dx dy W H) S else if kind = 2 then ellV (ellQ dx dy W H) W H S else if odd then oneB else 0
def covB (kind : Int) (dx dy W H S : Nat) (odd out : Bool) : Nat := canon (if out then fop .sub oneB (covV kind dx dy W H S odd) else covV kind dx dy W H S odd)

theorem rd_one : rd oneB = .number false 8388608 (-23) := by decide
theorem rd_two : rd twoB = .number false 8388608 (-22) := by decide
theorem rd_three : rd threeB = .number false 12582912 (-22) := by decide
theorem rd_zero : rd 0 = .number false 0 (-149) := by decide
theorem write_nn {d : Datum} (h : d.isNaN = false) : isNaN (FloatKind.f32.format.write d) = false := by
  rw [isNaN_iff]
  cases d with
  | nan => cases h
  | infinity s =>
    show (FloatKind.f32.format.read (FloatKind.f32.format.word s FloatKind.f32.format.infRung)).isNaN = false
    rw [read_inf]; rfl
  | number s m p =>
    show (FloatKind.f32.format.read (FloatKind.f32.format.nearest s m p)).isNaN = false
    rcases read_nearest FloatKind.f32.format s m p with ⟨k, l, h, _⟩ | h <;> rw [h] <;> rfl
theorem fop_is {op : BinOp} {x y : Nat} {d : Datum} (h : floatBits op .f32 x y = some (FloatKind.f32.format.write d)) (hd : d.isNaN = false) : fop op x y = FloatKind.f32.format.write d := by
  unfold fop
  rw [h, Option.map_some, Option.getD_some, canon_of_num (write_nn hd)]
theorem fop_nn {op : BinOp} {x y : Nat} {d : Datum} (h : floatBits op .f32 x y = some (FloatKind.f32.format.write d)) (hd : d.isNaN = false) : isNaN (fop op x y) = false := by
  rw [fop_is h hd]; exact write_nn hd
theorem bits_sub (x y : Nat) : floatBits .sub .f32 x y = ((rd x).sum (rd y).opposite).map FloatKind.f32.format.write := rfl
theorem bits_add (x y : Nat) : floatBits .add .f32 x y = ((rd x).sum (rd y)).map FloatKind.f32.format.write := rfl
theorem bits_mul (x y : Nat) : floatBits .mul .f32 x y = ((rd x).product (rd y)).map FloatKind.f32.format.write := rfl
theorem bits_quo (x y : Nat) : floatBits .quo .f32 x y = ((rd x).quotient 25 (rd y)).map FloatKind.f32.format.write := rfl
theorem cases_nn {b : Nat} (h : isNaN b = false) : (∃ s m i, rd b = .number s m i) ∨ (∃ s, rd b = .infinity s) := by
  rw [isNaN_iff] at h
  cases hb : rd b with
  | number s m i => exact .inl ⟨s, m, i, rfl⟩
  | infinity s => exact .inr ⟨s, rfl⟩
  | nan s t => rw [hb] at h; cases h
theorem sub_nn_left {x y : Nat} (hx : ∃ s m i, rd x = .number s m i) (hy : isNaN y = false) : isNaN (fop .sub x y) = false := by
  obtain ⟨s, m, i, hx⟩ := hx
  rcases cases_nn hy with ⟨t, n, j, hy⟩ | ⟨t, hy⟩
  · exact fop_nn (by rw [bits_sub, hx, hy]; rfl) rfl
  · exact fop_nn (d := .infinity (!t)) (by rw [bits_sub, hx, hy]; rfl) rfl
theorem sub_nn_right {x y : Nat} (hx : isNaN x = false) (hy : ∃ s m i, rd y = .number s m i) : isNaN (fop .sub x y) = false := by
  obtain ⟨t, n, j, hy⟩ := hy
  rcases cases_nn hx with ⟨s, m, i, hx⟩ | ⟨s, hx⟩
  · exact fop_nn (by rw [bits_sub, hx, hy]; rfl) rfl
  · exact fop_nn (d := .infinity s) (by rw [bits_sub, hx, hy]; rfl) rfl
theorem mul_num {x y : Nat} (hx : ∃ s m i, rd x = .number s m i) (hy : ∃ s m i, rd y = .number s m i) : isNaN (fop .mul x y) = false := by
  obtain ⟨s, m, i, hx⟩ := hx
  obtain ⟨t, n, j, hy⟩ := hy
  exact fop_nn (by rw [bits_mul, hx, hy]; rfl) rfl

/-- Within 0 and 1. -/
theorem lim_num {t : Nat} (h : isNaN t = false) : ∃ s m i, rd (lim01 t) = .number s m i ∧ (m = 0 ∨ i + m.log2 ≤ 0) := by
  unfold lim01
  cases h1 : ltF t 0
  · cases h2 : gtF t oneB
    · simp only [Bool.false_eq_true, if_false]
      rw [canon_of_num h]
      rcases cases_nn h with ⟨s, m, i, hr⟩ | ⟨s, hr⟩
      · refine ⟨s, m, i, hr, ?_⟩
        have g1 : ((rd t).order (rd 0) == some .lt) = false := h1
        have g2 : ((rd t).order (rd oneB) == some .gt) = false := h2
        rw [hr, rd_zero] at g1
        rw [hr, rd_one] at g2
        simp only [Datum.order] at g1 g2
        by_cases hm : m = 0
        · exact .inl hm
        right
        have c1 : compare (signed s m (i - min i (-149)).toNat) (signed false 0 (-149 - min i (-149)).toNat) ≠ .lt := by intro e; rw [e] at g1; simp at g1
        have c2 : compare (signed s m (i - min i (-23)).toNat) (signed false 8388608 (-23 - min i (-23)).toNat) ≠ .gt := by intro e; rw [e] at g2; simp at g2
        have c1 := cmp_ge c1
        have z : signed false 0 (-149 - min i (-149)).toNat = 0 := by simp [signed]
        rw [z, signed_pow] at c1
        have hs : s = false := by
          cases s
          · rfl
          · exfalso
            simp only [if_true] at c1
            have : 0 < (m : Int) * 2 ^ (i - min i (-149)).toNat := Int.mul_pos (by omega) (pow_pos' _)
            rw [Int.neg_mul] at c1
            omega
        subst hs
        have c3 : signed false m (i - min i (-23)).toNat ≤ signed false 8388608 (-23 - min i (-23)).toNat := by
          rcases Int.lt_or_le (signed false 8388608 (-23 - min i (-23)).toNat) (signed false m (i - min i (-23)).toNat) with h | h
          · exact absurd (by rw [Int.compare_eq_ite_lt, if_neg (by omega), if_pos h]) c2
          · exact h
        rw [signed_pow, signed_pow] at c3
        simp only [Bool.false_eq_true, if_false] at c3
        have c4 : m * 2 ^ (i - min i (-23)).toNat ≤ 8388608 * 2 ^ (-23 - min i (-23)).toNat := by exact_mod_cast c3
        have h23 : (8388608 : Nat) = 2 ^ 23 := by decide
        rw [h23, ← Nat.pow_add] at c4
        have c5 := log2_of_le (Nat.mul_ne_zero hm (Nat.ne_of_gt (Nat.two_pow_pos _))) c4
        rw [log2_mul_pow _ hm] at c5
        omega
      · exfalso
        have g1 : ((rd t).order (rd 0) == some .lt) = false := h1
        have g2 : ((rd t).order (rd oneB) == some .gt) = false := h2
        rw [hr, rd_zero] at g1
        rw [hr, rd_one] at g2
        cases s
        · revert g2; decide
        · revert g1; decide
    · simp only [Bool.false_eq_true, if_false, if_true]
      exact ⟨_, _, _, rd_one, .inr (by decide)⟩
  · simp only [if_true]
    exact ⟨_, _, _, rd_zero, .inl rfl⟩
theorem log2_mul_le {a b : Nat} (ha : a ≠ 0) (hb : b ≠ 0) : (a * b).log2 ≤ a.log2 + b.log2 + 1 := by
  refine log2_le ?_
  have h1 : a < 2 ^ (a.log2 + 1) := Nat.lt_log2_self
  have h2 : b < 2 ^ (b.log2 + 1) := Nat.lt_log2_self
  have := Nat.mul_lt_mul_of_lt_of_le h1 (Nat.le_of_lt h2) (by omega)
  rw [← Nat.pow_add] at this
  rw [show a.log2 + b.log2 + 1 + 1 = a.log2 + 1 + (b.log2 + 1) by omega]
  exact this
theorem f32_rungs : FloatKind.f32.format.binade ≤ FloatKind.f32.format.infRung := by rw [f32_binade, f32_inf]; decide
theorem sm_parts {t : Nat} (h : isNaN t = false) : isNaN (fop .mul (lim01 t) (lim01 t)) = false ∧ isNaN (fop .mul twoB (lim01 t)) = false ∧ isNaN (fop .sub threeB (fop .mul twoB (lim01 t))) = false ∧ isNaN (smB t) = false := by
  obtain ⟨s, m, i, hr, hb⟩ := lim_num h
  unfold smB
  generalize lim01 t = v at hr
  -- v * v
  have e1 : ∃ s' k l, rd (fop .mul v v) = .number s' k l := by
    have he : fop .mul v v = FloatKind.f32.format.nearest (s ^^ s) (m * m) (i + i) := fop_is (d := .number (s ^^ s) (m * m) (i + i)) (by rw [bits_mul, hr]; rfl) rfl
    obtain ⟨k, l, hk⟩ := finite_write (s ^^ s) (m * m) (i + i) (by
      rcases hb with h0 | h0
      · left; rw [h0]
      · by_cases hm : m = 0
        · left; rw [hm]
        · right; have := log2_mul_le hm hm; omega)
    exact ⟨_, k, l, by rw [he]; exact hk⟩
  -- 2 * v
  have e2 : ∃ s' k l, rd (fop .mul twoB v) = .number s' k l ∧ (k = 0 ∨ l + k.log2 ≤ 2) := by
    have he : fop .mul twoB v = FloatKind.f32.format.nearest (false ^^ s) (8388608 * m) (-22 + i) := fop_is (d := .number (false ^^ s) (8388608 * m) (-22 + i)) (by rw [bits_mul, rd_two, hr]; rfl) rfl
    by_cases hm : m = 0
    · refine ⟨false ^^ s, 0, -149, ?_, .inl rfl⟩
      rw [he, hm]
      exact nearest_zero FloatKind.f32.format (false ^^ s) (-22 + i)
    · have hi : i + m.log2 ≤ 0 := by rcases hb with h0 | h0; · exact absurd h0 hm
                                     · exact h0
      have hl : (8388608 * m).log2 = m.log2 + 23 := by
        have := log2_mul_pow 23 hm
        rw [Nat.mul_comm 8388608 m, show (8388608 : Nat) = 2 ^ 23 by decide]; exact this
      obtain ⟨k, l, hk⟩ := finite_write (false ^^ s) (8388608 * m) (-22 + i) (.inr (by omega))
      refine ⟨false ^^ s, k, l, by rw [he]; exact hk, ?_⟩
      rcases write_bound FloatKind.f32.format f32_rungs (show 8388608 * m ≠ 0 by omega) hk with h1 | h1
      · exact .inl h1
      · right; omega
  obtain ⟨s2, k2, l2, hr2, hb2⟩ := e2
  generalize fop .mul twoB v = w at hr2
  -- 3 - w
  have e3 : ∃ s' k l, rd (fop .sub threeB w) = .number s' k l := by
    obtain ⟨base, hbase⟩ : ∃ base, base = min (-22 : Int) l2 := ⟨_, rfl⟩
    obtain ⟨T, hT⟩ : ∃ T, T = signed false 12582912 (-22 - base).toNat + signed (!s2) k2 (l2 - base).toNat := ⟨_, rfl⟩
    have he : fop .sub threeB w = FloatKind.f32.format.nearest (if T = 0 then false && !s2 else decide (T < 0)) T.natAbs base := by
      refine fop_is (d := .number (if T = 0 then false && !s2 else decide (T < 0)) T.natAbs base) ?_ rfl
      rw [bits_sub, rd_three, hr2, hT, hbase]; rfl
    obtain ⟨k, l, hk⟩ := finite_write (if T = 0 then false && !s2 else decide (T < 0)) T.natAbs base (by
      by_cases hT0 : T.natAbs = 0
      · exact .inl hT0
      right
      have a1 : (12582912 : Nat) * 2 ^ (-22 - base).toNat < 2 ^ (2 - base).toNat := by
        have : (2 : Nat) ^ (2 - base).toNat = 2 ^ 24 * 2 ^ (-22 - base).toNat := by rw [← Nat.pow_add]; congr 1; omega
        rw [this]
        exact Nat.mul_lt_mul_of_pos_right (by decide) (Nat.two_pow_pos _)
      have a2 : k2 * 2 ^ (l2 - base).toNat < 2 ^ (3 - base).toNat := by
        rcases hb2 with h0 | h0
        · rw [h0, Nat.zero_mul]; exact Nat.two_pow_pos _
        · have b1 : k2 < 2 ^ (k2.log2 + 1) := Nat.lt_log2_self
          have b2 := Nat.mul_lt_mul_of_pos_right b1 (Nat.two_pow_pos (l2 - base).toNat)
          rw [← Nat.pow_add] at b2
          exact Nat.lt_of_lt_of_le b2 (Nat.pow_le_pow_right (by omega) (by omega))
      have a3 : T.natAbs ≤ 12582912 * 2 ^ (-22 - base).toNat + k2 * 2 ^ (l2 - base).toNat := by
        rw [hT]
        rcases signed_abs false 12582912 (-22 - base).toNat with q1 | q1 <;> rcases signed_abs (!s2) k2 (l2 - base).toNat with q2 | q2 <;> rw [q1, q2] <;> omega
      have a4 : (2 : Nat) ^ (3 - base).toNat = 2 * 2 ^ (2 - base).toNat := by rw [show (3 - base).toNat = (2 - base).toNat + 1 by omega, Nat.pow_succ]; omega
      have a5 : (2 : Nat) ^ ((3 - base).toNat + 1) = 2 * 2 ^ (3 - base).toNat := by rw [Nat.pow_succ]; omega
      have a6 : T.natAbs.log2 ≤ (3 - base).toNat := log2_le (by omega)
      omega)
    exact ⟨_, k, l, by rw [he]; exact hk⟩
  have nn : ∀ {b : Nat}, (∃ s' k l, rd b = .number s' k l) → isNaN b = false := fun ⟨_, _, _, h⟩ => by rw [isNaN_iff, h]; rfl
  exact ⟨nn e1, nn ⟨_, _, _, hr2⟩, nn e3, mul_num e1 e3⟩
theorem sm_nn {t : Nat} (h : isNaN t = false) : isNaN (smB t) = false := (sm_parts h).2.2.2
theorem quo_some (s t : Bool) (m : Nat) {n : Nat} (i j : Int) (hn : n ≠ 0) : ∃ D, ((Datum.number s m i).quotient 25 (.number t n j)).map FloatKind.f32.format.write = some (FloatKind.f32.format.write D) ∧ D.isNaN = false := by
  simp only [Datum.quotient, if_neg hn, Option.map_some]
  exact ⟨_, rfl, rfl⟩
theorem fade_quo {d soft : Nat} (hd : isNaN d = false) (hp : gtF d 0 = true) (hs : ∃ s m i, rd soft = .number s m i) (h1 : ltF d soft = true) : isNaN (fop .quo d soft) = false := by
  obtain ⟨t, n, j, hs⟩ := hs
  have g1 : ((rd d).order (rd soft) == some .lt) = true := h1
  have g2 : ((rd d).order (rd 0) == some .gt) = true := hp
  rcases cases_nn hd with ⟨s, m, i, hr⟩ | ⟨s, hr⟩
  · have hn : n ≠ 0 := by
      intro hn
      rw [hr, hs, hn] at g1
      rw [hr, rd_zero] at g2
      simp only [Datum.order, beq_iff_eq, Option.some.injEq] at g1 g2
      have c1 := cmp_lt g1
      have c2 : signed false 0 (-149 - min i (-149)).toNat < signed s m (i - min i (-149)).toNat := by
        rw [Int.compare_eq_ite_lt] at g2
        split at g2
        · cases g2
        · split at g2
          · assumption
          · cases g2
      rw [signed_pow, signed_pow] at c1 c2
      have z1 : (if t = true then -((0 : Nat) : Int) else ((0 : Nat) : Int)) = 0 := by cases t <;> rfl
      rw [z1, Int.zero_mul] at c1
      simp only [Bool.false_eq_true, if_false] at c2
      have z2 : ((0 : Nat) : Int) * 2 ^ (-149 - min i (-149)).toNat = 0 := by simp
      rw [z2] at c2
      generalize (if s = true then -(m : Int) else (m : Int)) = z at c1 c2
      have p1 := pow_pos' (i - min i j).toNat
      have p2 := pow_pos' (i - min i (-149)).toNat
      by_cases hz : 0 ≤ z
      · have := Int.mul_nonneg hz (Int.le_of_lt p1); omega
      · have := Int.mul_nonpos_of_nonpos_of_nonneg (show z ≤ 0 by omega) (Int.le_of_lt p2); omega
    have hq : isNaN (fop .quo d soft) = false := by
      obtain ⟨D, hD1, hD2⟩ : ∃ D, floatBits .quo .f32 d soft = some (FloatKind.f32.format.write D) ∧ D.isNaN = false := by
        rw [bits_quo, hr, hs]
        exact quo_some _ _ _ _ _ hn
      exact fop_nn hD1 hD2
    exact hq
  · exfalso
    rw [hr, hs] at g1
    rw [hr, rd_zero] at g2
    cases s
    · revert g1; simp [Datum.order]
    · revert g2; simp [Datum.order]
theorem fade_nn {d soft : Nat} (hd : isNaN d = false) (hp : gtF d 0 = true) (hs : ∃ s m i, rd soft = .number s m i) : isNaN (fadeB d soft) = false := by
  unfold fadeB
  cases h1 : ltF d soft
  · rw [if_neg (by simp)]; decide
  · rw [if_pos rfl]
    exact sub_nn_left ⟨_, _, _, rd_one⟩ (sm_nn (fade_quo hd hp hs h1))
theorem edge_nn {d soft : Nat} (hd : isNaN d = false) (hs : ∃ s m i, rd soft = .number s m i) : isNaN (edgeB d soft) = false := by
  unfold edgeB
  cases h : gtF d 0
  · rw [if_neg (by simp)]; decide
  · rw [if_pos rfl]; exact fade_nn hd h hs
theorem box_nn {dx dy W H : Nat} (hx : ∃ s m i, rd (absF dx) = .number s m i) (hy : ∃ s m i, rd (absF dy) = .number s m i) (hW : ∃ s m i, rd W = .number s m i) (hH : ∃ s m i, rd H = .number s m i) : isNaN (boxD dx dy W H) = false := by
  have n1 : ∀ {a : Nat}, (∃ s m i, rd a = .number s m i) → isNaN a = false := fun ⟨_, _, _, h⟩ => by rw [isNaN_iff, h]; rfl
  unfold boxD
  split
  · exact sub_nn_right (n1 hy) hH
  · exact sub_nn_right (n1 hx) hW
/-- A number that is not 0. -/
def nzF (b : Nat) : Prop := ∃ s m i, rd b = .number s m i ∧ m ≠ 0
theorem quo_nn {x y : Nat} (hx : ∃ s m i, rd x = .number s m i) (hy : nzF y) : isNaN (fop .quo x y) = false := by
  obtain ⟨s, m, i, hr⟩ := hx
  obtain ⟨t, n, j, hs, hn⟩ := hy
  obtain ⟨D, hD1, hD2⟩ : ∃ D, floatBits .quo .f32 x y = some (FloatKind.f32.format.write D) ∧ D.isNaN = false := by
    rw [bits_quo, hr, hs]
    exact quo_some _ _ _ _ _ hn
  exact fop_nn hD1 hD2
/-- Not below nought, and no NaN. -/
def pnF (b : Nat) : Prop := (∃ m i, rd b = .number false m i) ∨ rd b = .infinity false
theorem pn_write {d : Datum} (h : d.isNaN = false) (hd : PN d) : pnF (FloatKind.f32.format.write d) := by
  have h1 := PN_write hd
  have h2 := write_nn h
  rcases cases_nn h2 with ⟨s, m, i, hr⟩ | ⟨s, hr⟩
  · rw [hr] at h1
    rcases h1 with h1 | ⟨_, _, h1⟩
    · have : s = false := h1
      subst this
      exact .inl ⟨m, i, hr⟩
    · rw [h1] at h; cases h
  · rw [hr] at h1
    rcases h1 with h1 | ⟨_, _, h1⟩
    · have : s = false := h1
      subst this
      exact .inr hr
    · rw [h1] at h; cases h
theorem sq_pn {x : Nat} (hx : isNaN x = false) : pnF (fop .mul x x) := by
  rcases cases_nn hx with ⟨s, m, i, hr⟩ | ⟨s, hr⟩
  · have he : fop .mul x x = FloatKind.f32.format.write (.number (s ^^ s) (m * m) (i + i)) := fop_is (by rw [bits_mul, hr]; rfl) rfl
    rw [he]
    exact pn_write rfl (show (s ^^ s) = false by cases s <;> rfl)
  · have he : fop .mul x x = FloatKind.f32.format.write (.infinity (s ^^ s)) := fop_is (by rw [bits_mul, hr]; rfl) rfl
    rw [he]
    exact pn_write rfl (show (s ^^ s) = false by cases s <;> rfl)
theorem sum_pn {x y : Nat} (hx : pnF x) (hy : pnF y) : pnF (fop .add x y) := by
  rcases hx with ⟨m, i, hr⟩ | hr <;> rcases hy with ⟨n, j, hs⟩ | hs
  · obtain ⟨T, hT⟩ : ∃ T, T = signed false m (i - min i j).toNat + signed false n (j - min i j).toNat := ⟨_, rfl⟩
    have h0 : 0 ≤ T := by
      rw [hT, signed_pow, signed_pow]
      simp only [Bool.false_eq_true, if_false]
      have a := Int.mul_nonneg (show (0 : Int) ≤ m by omega) (Int.le_of_lt (pow_pos' (i - min i j).toNat))
      have b := Int.mul_nonneg (show (0 : Int) ≤ n by omega) (Int.le_of_lt (pow_pos' (j - min i j).toNat))
      omega
    have he : fop .add x y = FloatKind.f32.format.write (.number (if T = 0 then false && false else decide (T < 0)) T.natAbs (min i j)) := fop_is (by rw [bits_add, hr, hs, hT]; rfl) rfl
    rw [he]
    refine pn_write rfl ?_
    show (if T = 0 then false && false else decide (T < 0)) = false
    split
    · rfl
    · exact decide_eq_false (by omega)
  all_goals
    have he : fop .add x y = FloatKind.f32.format.write (.infinity false) := fop_is (by rw [bits_add, hr, hs]; rfl) rfl
    rw [he]
    exact pn_write rfl rfl
theorem ellQ_nn {dx dy W H : Nat} (hx : ∃ s m i, rd dx = .number s m i) (hy : ∃ s m i, rd dy = .number s m i) (hW : nzF W) (hH : nzF H) : pnF (fop .add (fop .mul (fop .quo dx W) (fop .quo dx W)) (fop .mul (fop .quo dy H) (fop .quo dy H))) ∧ isNaN (ellQ dx dy W H) = false := by
  have h := sum_pn (sq_pn (quo_nn hx hW)) (sq_pn (quo_nn hy hH))
  obtain ⟨_, _, _, _, _, _, _, h2⟩ := root_ok h
  exact ⟨h, h2⟩
theorem ellV_nn {q W H S : Nat} (hq : isNaN q = false) (hW : nzF W) (hH : nzF H) (hS : ∃ s m i, rd S = .number s m i) : isNaN (ellV q W H S) = false := by
  unfold ellV
  split
  · have h1 := sub_nn_right hq ⟨_, _, _, rd_one⟩
    have hl : nzF (if ltF H W then H else W) := by split <;> assumption
    refine edge_nn ?_ hS
    generalize (if ltF H W then H else W) = l at hl
    obtain ⟨t, n, j, hs, hn⟩ := hl
    rcases cases_nn h1 with ⟨s, m, i, hr⟩ | ⟨s, hr⟩
    · exact mul_num ⟨_, _, _, hr⟩ ⟨_, _, _, hs⟩
    · refine fop_nn (d := .infinity (s ^^ t)) ?_ rfl
      rw [bits_mul, hr, hs]
      simp only [Datum.product, if_neg hn, Option.map_some]
  · decide
theorem cov_nn {kind : Int} {dx dy W H S : Nat} {odd out : Bool} (hx : ∃ s m i, rd dx = .number s m i) (hy : ∃ s m i, rd dy = .number s m i) (hax : ∃ s m i, rd (absF dx) = .number s m i) (hay : ∃ s m i, rd (absF dy) = .number s m i)
    (hW : ∃ s m i, rd W = .number s m i) (hH : ∃ s m i, rd H = .number s m i) (hS : ∃ s m i, rd S = .number s m i) (hk : kind = 2 → nzF W ∧ nzF H) : isNaN (covB kind dx dy W H S odd out) = false := by
  have hv : isNaN (covV kind dx dy W H S odd) = false := by
    unfold covV
    split
    · exact edge_nn (box_nn hax hay hW hH) hS
    · split
      · rename_i h2
        obtain ⟨a, b⟩ := hk h2
        exact ellV_nn (ellQ_nn hx hy a b).2 a b hS
      · cases odd <;> decide
  unfold covB
  cases out
  · rw [if_neg (by simp), canon_of_num hv]; exact hv
  · rw [if_pos rfl]
    have := sub_nn_left ⟨_, _, _, rd_one⟩ hv
    rw [canon_of_num this]; exact this
end Go.Proofs.YteebkfdocdmboaaDoor
