/- Comparing parts of a grade with what is neutral. (printed by gen_nue.py) -/
import Derived.Test.YticekgnmiaidjaaGreatDoorGnB
import Derived.Test.YticekgnmiaidjaaGreatDoorFfM
import Derived.Test.YticekgnmiaidjaaGreatDoorGdw
import Derived.Test.YticekgnmiaidjaaGreatDoorGnF
namespace Go.Proofs.YticekgnmiaidjaaGreatDoor

section
open Go.RowKit Go.Lib Ieee

theorem order_zero (z : Nat) : (FloatKind.f32.format.order z 0 == some .eq) = ((rd z).order (.number false 0 (-149)) == some .eq) := by
  rw [← rd_zero]; rfl
theorem signed_zero {s : Bool} {m k : Nat} : signed s m k = 0 ↔ m = 0 := by
  have h : m <<< k = 0 ↔ m = 0 := by
    rw [Nat.shiftLeft_eq]
    have := Nat.two_pow_pos k
    constructor
    · intro h
      rcases Nat.mul_eq_zero.1 h with h | h
      · exact h
      · omega
    · intro h; rw [h, Nat.zero_mul]
  unfold signed
  cases s
  · simp only [Bool.false_eq_true, if_false]; omega
  · simp only [if_true]; omega
theorem zer0_rd {z : Nat} (h : zer0 z = true) : ∃ t j, rd z = .number t 0 j := by
  unfold zer0 at h
  rw [order_zero] at h
  cases hr : rd z with
  | nan p q => rw [hr] at h; simp [Datum.order] at h
  | infinity s => rw [hr] at h; cases s <;> simp [Datum.order] at h
  | number s m i =>
    rw [hr] at h
    simp only [Datum.order, beq_iff_eq, Option.some.injEq] at h
    have he := Int.compare_eq_eq.1 h
    rw [signed_zero.2 (rfl : (0 : Nat) = 0)] at he
    have := signed_zero.1 he
    subst this
    exact ⟨s, i, rfl⟩
theorem rd_zer0 {z : Nat} {t : Bool} {j : Int} (h : rd z = .number t 0 j) : zer0 z = true := by
  unfold zer0
  rw [order_zero, h]
  simp only [Datum.order, beq_iff_eq, Option.some.injEq]
  rw [signed_zero.2 (rfl : (0 : Nat) = 0), signed_zero.2 (rfl : (0 : Nat) = 0)]
  exact Int.compare_eq_eq.2 rfl
theorem write_zero (s : Bool) (i : Int) : zer0 (FloatKind.f32.format.write (.number s 0 i)) = true :=
  rd_zer0 (t := s) (j := FloatKind.f32.format.leastPlace) (nearest_zero _ _ _)

/-- y is x, or both are zero. -/
def Nb (x y : Nat) : Prop := y = x ∨ (zer0 x = true ∧ zer0 y = true)
theorem signed_abs2 (s : Bool) (m k : Nat) : (signed s m k).natAbs = m * 2 ^ k ∧ (m ≠ 0 → decide (signed s m k < 0) = s) := by
  unfold signed
  rw [Nat.shiftLeft_eq]
  have h := Nat.two_pow_pos k
  have h2 : m ≠ 0 → 0 < m * 2 ^ k := fun hm => Nat.mul_pos (Nat.pos_of_ne_zero hm) h
  generalize m * 2 ^ k = q at *
  cases s
  · simp only [Bool.false_eq_true, if_false]
    exact ⟨by omega, fun hm => by have := h2 hm; exact decide_eq_false (by omega)⟩
  · simp only [if_true]
    exact ⟨by omega, fun hm => by have := h2 hm; exact decide_eq_true (by omega)⟩
theorem near_scale (s : Bool) (m : Nat) {i b : Int} (h : b ≤ i) : FloatKind.f32.format.nearest s (m * 2 ^ (i - b).toNat) b = FloatKind.f32.format.nearest s m i := by
  have := nearest_scale FloatKind.f32.format s m (i - b).toNat i
  rw [show i - ((i - b).toNat : Int) = b by omega] at this
  exact this
/-- A number and a zero added. -/
theorem sum_zero {x : Nat} {s t : Bool} {m : Nat} {i j : Int} (hr : rd x = .number s m i) (hn : FloatKind.f32.format.nearest s m i = x) :
    (∃ d, (Datum.number s m i).sum (.number t 0 j) = some d ∧ d.isNaN = false ∧ Nb x (FloatKind.f32.format.write d)) ∧ ∃ d, (Datum.number t 0 j).sum (.number s m i) = some d ∧ d.isNaN = false ∧ Nb x (FloatKind.f32.format.write d) := by
  obtain ⟨a1, a2⟩ := signed_abs2 s m (i - min i j).toNat
  obtain ⟨b1, b2⟩ := signed_abs2 s m (i - min j i).toNat
  refine ⟨⟨_, rfl, rfl, ?_⟩, _, rfl, rfl, ?_⟩
  · show Nb x (FloatKind.f32.format.nearest (if signed s m (i - min i j).toNat + signed t 0 (j - min i j).toNat = 0 then s && t else decide (signed s m (i - min i j).toNat + signed t 0 (j - min i j).toNat < 0)) (signed s m (i - min i j).toNat + signed t 0 (j - min i j).toNat).natAbs (min i j))
    rw [(signed_zero (s := t) (k := (j - min i j).toNat)).2 rfl, Int.add_zero, a1]
    by_cases hm : m = 0
    · subst hm
      rw [Nat.zero_mul]
      exact .inr ⟨rd_zer0 hr, write_zero _ _⟩
    · rw [if_neg (fun h => hm (signed_zero.1 h)), a2 hm, near_scale s m (by omega)]
      exact .inl hn
  · show Nb x (FloatKind.f32.format.nearest (if signed t 0 (j - min j i).toNat + signed s m (i - min j i).toNat = 0 then t && s else decide (signed t 0 (j - min j i).toNat + signed s m (i - min j i).toNat < 0)) (signed t 0 (j - min j i).toNat + signed s m (i - min j i).toNat).natAbs (min j i))
    rw [(signed_zero (s := t) (k := (j - min j i).toNat)).2 rfl, Int.zero_add, b1]
    by_cases hm : m = 0
    · subst hm
      rw [Nat.zero_mul]
      exact .inr ⟨rd_zer0 hr, write_zero _ _⟩
    · rw [if_neg (fun h => hm (signed_zero.1 h)), b2 hm, near_scale s m (by omega)]
      exact .inl hn
theorem num_near {x : Nat} (hx : x < 4294967296) (h : isNum x = true) : ∃ s m i, rd x = .number s m i ∧ FloatKind.f32.format.nearest s m i = x := by
  obtain ⟨s, m, i, hr⟩ := isNum_rd h
  exact self_nearest hx (num_exN hr)
theorem sum_zz {s t : Bool} {i j : Int} : ∃ d, (Datum.number s 0 i).sum (.number t 0 j) = some d ∧ d.isNaN = false ∧ zer0 (FloatKind.f32.format.write d) = true := by
  refine ⟨_, rfl, rfl, ?_⟩
  show zer0 (FloatKind.f32.format.nearest _ (signed s 0 (i - min i j).toNat + signed t 0 (j - min i j).toNat).natAbs (min i j)) = true
  rw [(signed_zero (s := t) (k := (j - min i j).toNat)).2 rfl, (signed_zero (s := s) (k := (i - min i j).toNat)).2 rfl]
  exact write_zero _ _
theorem nb_add {x y z : Nat} (hx : x < 4294967296) (h : isNum x = true) (hy : Nb x y) (hz : zer0 z = true) : Nb x (fop .add y z) ∧ Nb x (fop .add z y) ∧ Nb x (fop .sub y z) := by
  obtain ⟨t, j, ez⟩ := zer0_rd hz
  rcases hy with rfl | ⟨h1, h2⟩
  · obtain ⟨s, m, i, hr, hn⟩ := num_near hx h
    refine ⟨?_, ?_, ?_⟩
    · obtain ⟨⟨d, e, hd, hN⟩, _⟩ := sum_zero (t := t) (j := j) hr hn
      rw [fop_is (d := d) (by rw [bits_add, hr, ez, e]; rfl) hd]; exact hN
    · obtain ⟨_, d, e, hd, hN⟩ := sum_zero (t := t) (j := j) hr hn
      rw [fop_is (d := d) (by rw [bits_add, hr, ez, e]; rfl) hd]; exact hN
    · obtain ⟨⟨d, e, hd, hN⟩, _⟩ := sum_zero (t := !t) (j := j) hr hn
      rw [fop_is (d := d) (by rw [bits_sub, hr, ez]; show ((Datum.number s m i).sum (.number (!t) 0 j)).map _ = _; rw [e]; rfl) hd]; exact hN
  · obtain ⟨s, i, ey⟩ := zer0_rd h2
    refine ⟨.inr ⟨h1, ?_⟩, .inr ⟨h1, ?_⟩, .inr ⟨h1, ?_⟩⟩
    · obtain ⟨d, e, hd, hN⟩ := sum_zz (s := s) (t := t) (i := i) (j := j)
      rw [fop_is (d := d) (by rw [bits_add, ey, ez, e]; rfl) hd]; exact hN
    · obtain ⟨d, e, hd, hN⟩ := sum_zz (s := t) (t := s) (i := j) (j := i)
      rw [fop_is (d := d) (by rw [bits_add, ey, ez, e]; rfl) hd]; exact hN
    · obtain ⟨d, e, hd, hN⟩ := sum_zz (s := s) (t := !t) (i := i) (j := j)
      rw [fop_is (d := d) (by rw [bits_sub, ey, ez]; show ((Datum.number s 0 i).sum (.number (!t) 0 j)).map _ = _; rw [e]; rfl) hd]; exact hN
theorem mul_zer {x z : Nat} (h : isNum x = true) (hz : zer0 z = true) : zer0 (fop .mul x z) = true := by
  obtain ⟨s, m, i, hr⟩ := isNum_rd h
  obtain ⟨t, j, ez⟩ := zer0_rd hz
  rw [fop_is (d := .number (s ^^ t) (m * 0) (i + j)) (by rw [bits_mul, hr, ez]; rfl) rfl, Nat.mul_zero]
  exact write_zero _ _
theorem nb_mul {x y : Nat} (hx : x < 4294967296) (h : isNum x = true) (hy : Nb x y) : Nb x (fop .mul y oneB) := by
  rcases hy with rfl | ⟨h1, h2⟩
  · obtain ⟨s, m, i, hr, hn⟩ := num_near hx h
    refine .inl ?_
    rw [fop_is (d := .number (s ^^ false) (m * 8388608) (i + -23)) (by rw [bits_mul, hr, rd_one]; rfl) rfl, Bool.xor_false]
    show FloatKind.f32.format.nearest s (m * 8388608) (i + -23) = y
    rw [← hn]
    exact nearest_scale FloatKind.f32.format s m 23 i
  · obtain ⟨s, i, ey⟩ := zer0_rd h2
    refine .inr ⟨h1, ?_⟩
    rw [fop_is (d := .number (s ^^ false) (0 * 8388608) (i + -23)) (by rw [bits_mul, ey, rd_one]; rfl) rfl, Nat.zero_mul]
    exact write_zero _ _
theorem one_of {y : Nat} (hy : y < 4294967296) (h : (FloatKind.f32.format.order y oneB == some .eq) = true) : y = oneB := by
  rw [show FloatKind.f32.format.order y oneB = (rd y).order (rd oneB) from rfl] at h
  have h := eq_of_beq h
  cases hr : rd y with
  | nan p q => rw [hr, rd_one] at h; simp [Datum.order] at h
  | infinity s => rw [hr, rd_one] at h; cases s <;> simp [Datum.order] at h
  | number s m i =>
    have hs : s = false := by
      cases s
      · rfl
      · exfalso
        rw [hr, rd_one] at h
        simp only [Datum.order, Option.some.injEq] at h
        have he := Int.compare_eq_eq.1 h
        have h1 : signed true m (i - min i (-23)).toNat ≤ 0 := by unfold signed; rw [if_pos rfl]; exact Int.neg_nonpos_of_nonneg (Int.natCast_nonneg _)
        have h2 : 0 < signed false 8388608 (-23 - min i (-23)).toNat := by
          obtain ⟨a, b⟩ := signed_abs2 false 8388608 (-23 - min i (-23)).toNat
          have b := of_decide_eq_false (b (by decide))
          have c : signed false 8388608 (-23 - min i (-23)).toNat ≠ 0 := fun e => absurd (signed_zero.1 e) (by decide)
          omega
        omega
    subst hs
    exact pos_inj hy (by decide) hr rd_one h
theorem order_self' {x : Nat} (h : isNum x = true) : (FloatKind.f32.format.order x x == some .eq) = true := by
  obtain ⟨s, m, i, hr⟩ := isNum_rd h
  rw [show FloatKind.f32.format.order x x = (rd x).order (rd x) from rfl, order_self (by rw [hr]; rfl)]
  rfl
theorem nb_eq {x y : Nat} (h : isNum x = true) (hy : Nb x y) : (FloatKind.f32.format.order y x == some .eq) = true := by
  rcases hy with rfl | ⟨h1, h2⟩
  · exact order_self' h
  · obtain ⟨s, i, e1⟩ := zer0_rd h1
    obtain ⟨t, j, e2⟩ := zer0_rd h2
    rw [show FloatKind.f32.format.order y x = (rd y).order (rd x) from rfl, e1, e2]
    simp only [Datum.order, beq_iff_eq, Option.some.injEq]
    rw [signed_zero.2 (rfl : (0 : Nat) = 0), signed_zero.2 (rfl : (0 : Nat) = 0)]
    exact Int.compare_eq_eq.2 rfl
theorem nb_num {x y : Nat} (h : isNum x = true) (hy : Nb x y) : canon y = y := by
  rcases hy with rfl | ⟨_, h2⟩
  · obtain ⟨s, m, i, hr⟩ := isNum_rd h
    exact canon_of_num (by rw [isNaN_iff, hr]; rfl)
  · obtain ⟨t, j, e2⟩ := zer0_rd h2
    exact canon_of_num (by rw [isNaN_iff, e2]; rfl)
end

section
open Go.RowKit Go.Lib

/-- The first error of grades. -/
def firstErr : List Gd → Int
  | [] => 0
  | g :: gs => if gradeErr g = 0 then firstErr gs else gradeErr g
theorem firstErr_hit : ∀ {gs : List Gd} {k : Nat} {g : Gd}, gs[k]? = some g → (∀ (j : Nat) (x : Gd), j < k → gs[j]? = some x → gradeErr x = 0) → gradeErr g ≠ 0 → firstErr gs = gradeErr g
  | [], k, g, h, _, _ => by simp at h
  | a :: gs, 0, g, h, _, he => by
    have : a = g := by simpa using h
    subst this
    unfold firstErr
    rw [if_neg he]
  | a :: gs, k + 1, g, h, hb, he => by
    unfold firstErr
    rw [if_pos (hb 0 a (by omega) rfl)]
    exact firstErr_hit (k := k) (by simpa using h) (fun j x hj hx => hb (j + 1) x (by omega) (by simpa using hx)) he
theorem firstErr_none : ∀ {gs : List Gd}, (∀ (j : Nat) (x : Gd), gs[j]? = some x → gradeErr x = 0) → firstErr gs = 0
  | [], _ => rfl
  | a :: gs, h => by
    unfold firstErr
    rw [if_pos (h 0 a rfl)]
    exact firstErr_none fun j x hx => h (j + 1) x (by simpa using hx)
theorem firstErr_zero : ∀ {gs : List Gd}, firstErr gs = 0 → ∀ g ∈ gs, gradeErr g = 0
  | [], _, g, hg => by cases hg
  | a :: gs, h, g, hg => by
    unfold firstErr at h
    by_cases ha : gradeErr a = 0
    · rw [if_pos ha] at h
      rcases List.mem_cons.1 hg with rfl | hg
      · exact ha
      · exact firstErr_zero h g hg
    · rw [if_neg ha] at h
      exact absurd h ha
def gradesErr (gs : List Gd) : Int := if 64 < gs.length then 4 else firstErr gs

def eqF (x y : Nat) : Bool := FloatKind.f32.format.order x y == some .eq
def eqL (xs ys : List Nat) : Bool := (List.range ys.length).all fun i => eqF (xs.getD i 0) (ys.getD i 0)
def neutW : List Nat := [0, 0, 0, 1065353216, 1065353216, 1065353216, 1065353216, 1065353216, 1065353216]
def neutM : List Nat := [1065353216, 0, 0, 0, 0, 1065353216, 0, 0, 0, 0, 1065353216, 0]
/-- A grade that changes nothing. -/
def neutB (g : Gd) : Bool :=
  if g.kind = 1 then eqL g.whe neutW else if g.kind = 3 then g.cvs.all (fun c => decide (c.xs.length = 0))
  else if g.kind = 4 then eqL g.mix neutM else if g.kind = 5 then eqF g.amt 1065353216 && eqF g.piv 0
  else if g.kind = 6 then g.pts.all (fun n => decide (n = 25)) else false
theorem eqL_get {xs ys : List Nat} (h : eqL xs ys = true) {i : Nat} (hi : i < ys.length) : eqF (xs.getD i 0) (ys.getD i 0) = true :=
  List.all_eq_true.1 h i (List.mem_range.2 hi)
theorem eqF_zer {x : Nat} (h : eqF x 0 = true) : zer0 x = true := h
theorem eqF_one {x : Nat} (hx : x < 4294967296) (h : eqF x 1065353216 = true) : x = oneB := one_of hx h
/-- In a right grade of curves a curve has points in x where it has points in y. -/
theorem hasP_iff {g : Gd} (h : gradeErr g = 0) {c : Cv} (hc : c ∈ g.cvs) : hasP c = !decide (c.xs.length = 0) := by
  have := ((right_of h).cvs c hc).1
  unfold hasP
  by_cases h0 : c.xs.length = 0
  · rw [decide_eq_true h0, ← this, h0]; rfl
  · rw [decide_eq_false h0, decide_eq_true (show 0 < c.xs.length by omega)]; rfl
theorem any_hasP {g : Gd} (h : gradeErr g = 0) : (!g.cvs.any hasP) = g.cvs.all (fun c => decide (c.xs.length = 0)) := by
  rw [Bool.eq_iff_iff, Bool.not_eq_true', List.any_eq_false, List.all_eq_true]
  constructor
  · intro h1 c hc
    have := h1 c hc
    rw [hasP_iff h hc] at this
    simpa using this
  · intro h1 c hc
    have := h1 c hc
    rw [hasP_iff h hc, this]
    simp

/-- What a neutral grade of wheels makes of a number. -/
def wheV (v gain lift : Nat) : Nat := fop .add (fop .mul v (fop .sub gain lift)) lift
theorem wheV_nb {v gain lift : Nat} (hv : v < 4294967296) (h : isNum v = true) (hg : gain = oneB) (hl : zer0 lift = true) : Nb v (wheV v gain lift) := by
  subst hg
  have h1 : Nb oneB (fop .sub oneB lift) := (nb_add (by decide) (by decide) (.inl rfl) hl).2.2
  have h2 : fop .sub oneB lift = oneB := by
    rcases h1 with h1 | ⟨h1, _⟩
    · exact h1
    · exact absurd h1 (by decide)
  unfold wheV
  rw [h2]
  exact (nb_add hv h (nb_mul hv h (.inl rfl)) hl).1
def mixV (p0 p1 p2 a b c d : Nat) : Nat := fop .add (fop .add (fop .add (fop .mul p0 a) (fop .mul p1 b)) (fop .mul p2 c)) d
theorem mixV_nb0 {p0 p1 p2 a b c d : Nat} (hv : p0 < 4294967296) (h0 : isNum p0 = true) (h1 : isNum p1 = true) (h2 : isNum p2 = true) (ha : a = oneB) (hb : zer0 b = true) (hc : zer0 c = true) (hd : zer0 d = true) : Nb p0 (mixV p0 p1 p2 a b c d) := by
  subst ha
  exact (nb_add hv h0 (nb_add hv h0 (nb_add hv h0 (nb_mul hv h0 (.inl rfl)) (mul_zer h1 hb)).1 (mul_zer h2 hc)).1 hd).1
theorem mixV_nb1 {p0 p1 p2 a b c d : Nat} (hv : p1 < 4294967296) (h0 : isNum p0 = true) (h1 : isNum p1 = true) (h2 : isNum p2 = true) (ha : zer0 a = true) (hb : b = oneB) (hc : zer0 c = true) (hd : zer0 d = true) : Nb p1 (mixV p0 p1 p2 a b c d) := by
  subst hb
  exact (nb_add hv h1 (nb_add hv h1 (nb_add hv h1 (nb_mul hv h1 (.inl rfl)) (mul_zer h0 ha)).2.1 (mul_zer h2 hc)).1 hd).1
theorem zer_add {x y : Nat} (hx : zer0 x = true) (hy : zer0 y = true) : zer0 (fop .add x y) = true := by
  obtain ⟨s, i, ex⟩ := zer0_rd hx
  obtain ⟨t, j, ey⟩ := zer0_rd hy
  obtain ⟨d, e, hd, hN⟩ := sum_zz (s := s) (t := t) (i := i) (j := j)
  rw [fop_is (d := d) (by rw [bits_add, ex, ey, e]; rfl) hd]; exact hN
theorem mixV_nb2 {p0 p1 p2 a b c d : Nat} (hv : p2 < 4294967296) (h0 : isNum p0 = true) (h1 : isNum p1 = true) (h2 : isNum p2 = true) (ha : zer0 a = true) (hb : zer0 b = true) (hc : c = oneB) (hd : zer0 d = true) : Nb p2 (mixV p0 p1 p2 a b c d) := by
  subst hc
  exact (nb_add hv h2 (nb_add hv h2 (nb_mul hv h2 (.inl rfl)) (zer_add (mul_zer h0 ha) (mul_zer h1 hb))).2.1 hd).1
def conV (v piv amt : Nat) : Nat := fop .add (fop .mul (fop .sub v piv) amt) piv
theorem conV_nb {v piv amt : Nat} (hv : v < 4294967296) (h : isNum v = true) (ha : amt = oneB) (hp : zer0 piv = true) : Nb v (conV v piv amt) := by
  subst ha
  exact (nb_add hv h (nb_mul hv h (nb_add hv h (.inl rfl) hp).2.2) hp).1
end

section
open Go.RowKit Go.Lib

theorem enters {P : Program} {f : FuncId} {fn : Func} (hf : P.funcs[f]? = some fn) (hn : (fn.name == "runtime.NumGoroutine") = false) (hb : fn.body.isNone = false) (args : Array Value) (w : World) : (callFunc f args).run P w = .ok (.enter f args) w := by
  have h1 : fn.name ≠ "runtime.NumGoroutine" := by simpa using hn
  have h2 : ¬ fn.body = none := by intro e; rw [e] at hb; cases hb
  simp [callFunc, hf, h1, h2]
theorem items_fG (d : Nat) (X Z : Array Value) (xs ys : List Nat) (n : Nat) (hX : ∀ i, i < n → X[i]? = some (.float .f32 (xs.getD i 0)) ∧ Z[i]? = some (.float .f32 (ys.getD i 0))) (w : World) :
    ∀ is : List Nat, (∀ i ∈ is, i < n) → (Op.eqItems (d + 1) 23 1 X Z is).run Tryz.prog w = .ok (is.all fun i => eqF (xs.getD i 0) (ys.getD i 0)) w
  | [], _ => by simp [Op.eqItems]
  | i :: is, h => by
    obtain ⟨h1, h2⟩ := hX i (h i (List.mem_cons_self ..))
    have ih := items_fG d X Z xs ys n hX w is fun j hj => h j (List.mem_cons_of_mem _ hj)
    simp only [Op.eqItems, Sem.run_bind, part_f h1, part_f h2, run_eqf, Result.andThen_ok, List.all_cons]
    show (if (!eqF (xs.getD i 0) (ys.getD i 0)) = true then (pure false : Sem Bool) else Op.eqItems (d + 1) 23 1 X Z is).run Tryz.prog w = _
    cases eqF (xs.getD i 0) (ys.getD i 0)
    · simp
    · simpa using ih
theorem items_iG (d : Nat) (X Z : Array Value) (xs ys : List Int) (n : Nat) (hX : ∀ i, i < n → X[i]? = some (.int .i64 (xs.getD i 0)) ∧ Z[i]? = some (.int .i64 (ys.getD i 0))) (w : World) :
    ∀ is : List Nat, (∀ i ∈ is, i < n) → (Op.eqItems (d + 1) 3 1 X Z is).run Tryz.prog w = .ok (is.all fun i => decide (xs.getD i 0 = ys.getD i 0)) w
  | [], _ => by simp [Op.eqItems]
  | i :: is, h => by
    obtain ⟨h1, h2⟩ := hX i (h i (List.mem_cons_self ..))
    have ih := items_iG d X Z xs ys n hX w is fun j hj => h j (List.mem_cons_of_mem _ hj)
    simp only [Op.eqItems, Sem.run_bind, part_i h1, part_i h2, run_eqi, Result.andThen_ok, List.all_cons]
    by_cases hz : xs.getD i 0 = ys.getD i 0
    · rw [show (xs.getD i 0 == ys.getD i 0) = true by simpa using hz, decide_eq_true hz]
      simpa using ih
    · rw [show (xs.getD i 0 == ys.getD i 0) = false by simpa using hz, decide_eq_false hz]
      simp
theorem eq_arrfG (d n : Nat) (t : TypeId) (hu : Tryz.prog.underlying t = some (.array n 23)) (X Z : Array Value) (xs ys : List Nat) (hl : ys.length = n) (hX : ∀ i, i < n → X[i]? = some (.float .f32 (xs.getD i 0)) ∧ Z[i]? = some (.float .f32 (ys.getD i 0))) (w : World) :
    (Op.equalIn (d + 2) t (.agg X) (.agg Z)).run Tryz.prog w = .ok (eqL xs ys) w := by
  obtain ⟨i, hi, hs⟩ := info_of 23 1 (by kernel_rfl)
  have hc : Tryz.prog.cellsOf 23 = 1 := by kernel_rfl
  rw [run_equalIn_array w (d + 1) X Z hu hi, hc, items_fG d X Z xs ys n hX w _ (fun j hj => List.mem_range.1 hj)]
  unfold eqL
  rw [hl]
theorem eq_arriG (d n : Nat) (t : TypeId) (hu : Tryz.prog.underlying t = some (.array n 3)) (X Z : Array Value) (xs ys : List Int) (hX : ∀ i, i < n → X[i]? = some (.int .i64 (xs.getD i 0)) ∧ Z[i]? = some (.int .i64 (ys.getD i 0))) (w : World) :
    (Op.equalIn (d + 2) t (.agg X) (.agg Z)).run Tryz.prog w = .ok ((List.range n).all fun i => decide (xs.getD i 0 = ys.getD i 0)) w := by
  obtain ⟨i, hi, hs⟩ := info_of 3 1 (by kernel_rfl)
  have hc : Tryz.prog.cellsOf 3 = 1 := by kernel_rfl
  rw [run_equalIn_array w (d + 1) X Z hu hi, hc, items_iG d X Z xs ys n hX w _ (fun j hj => List.mem_range.1 hj)]
theorem eq_f3G (d a b c x y z : Nat) (w : World) : (Op.equalIn (d + 2) 32 (.agg #[.float .f32 a, .float .f32 b, .float .f32 c]) (.agg #[.float .f32 x, .float .f32 y, .float .f32 z])).run Tryz.prog w = .ok (eqL [a, b, c] [x, y, z]) w :=
  eq_arrfG d 3 _ Tryz.underlying32 _ _ [a, b, c] [x, y, z] rfl (fun i hi => by rcases (by omega : i = 0 ∨ i = 1 ∨ i = 2) with rfl | rfl | rfl <;> exact ⟨rfl, rfl⟩) w
theorem eq_px (d a b c e x y z u : Nat) (w : World) : (Op.equalIn (d + 2) 25 (.agg #[.float .f32 a, .float .f32 b, .float .f32 c, .float .f32 e]) (.agg #[.float .f32 x, .float .f32 y, .float .f32 z, .float .f32 u])).run Tryz.prog w = .ok (eqL [a, b, c, e] [x, y, z, u]) w :=
  eq_arrfG d 4 _ Tryz.underlying25 _ _ [a, b, c, e] [x, y, z, u] rfl (fun i hi => by rcases (by omega : i = 0 ∨ i = 1 ∨ i = 2 ∨ i = 3) with rfl | rfl | rfl | rfl <;> exact ⟨rfl, rfl⟩) w
theorem eq_f12G (d a b c e f g h i j k l m : Nat) (w : World) : (Op.equalIn (d + 2) 41 (.agg #[.float .f32 a, .float .f32 b, .float .f32 c, .float .f32 e, .float .f32 f, .float .f32 g, .float .f32 h, .float .f32 i, .float .f32 j, .float .f32 k, .float .f32 l, .float .f32 m]) (.agg #[.float .f32 1065353216, .float .f32 0, .float .f32 0, .float .f32 0, .float .f32 0, .float .f32 1065353216, .float .f32 0, .float .f32 0, .float .f32 0, .float .f32 0, .float .f32 1065353216, .float .f32 0])).run Tryz.prog w = .ok (eqL [a, b, c, e, f, g, h, i, j, k, l, m] neutM) w :=
  eq_arrfG d 12 _ Tryz.underlying41 _ _ [a, b, c, e, f, g, h, i, j, k, l, m] neutM rfl (fun i hi => by rcases (by omega : i = 0 ∨ i = 1 ∨ i = 2 ∨ i = 3 ∨ i = 4 ∨ i = 5 ∨ i = 6 ∨ i = 7 ∨ i = 8 ∨ i = 9 ∨ i = 10 ∨ i = 11) with rfl | rfl | rfl | rfl | rfl | rfl | rfl | rfl | rfl | rfl | rfl | rfl <;> exact ⟨rfl, rfl⟩) w
theorem eq_i3N (d : Nat) (a b c : Int) (w : World) : (Op.equalIn (d + 2) 44 (.agg #[.int .i64 a, .int .i64 b, .int .i64 c]) (.agg #[.int .i64 25, .int .i64 25, .int .i64 25])).run Tryz.prog w = .ok ([a, b, c].all fun n => decide (n = 25)) w :=
  eq_arriG d 3 _ Tryz.underlying44 _ _ [a, b, c] [25, 25, 25] (fun i hi => by rcases (by omega : i = 0 ∨ i = 1 ∨ i = 2) with rfl | rfl | rfl <;> exact ⟨rfl, rfl⟩) w
theorem eqL_wh (a b c e f g h i j : Nat) : eqL [a, b, c, e, f, g, h, i, j] neutW = (eqL [a, b, c] [0, 0, 0] && (eqL [e, f, g] [1065353216, 1065353216, 1065353216] && eqL [h, i, j] [1065353216, 1065353216, 1065353216])) := by
  show (eqF a 0 && (eqF b 0 && (eqF c 0 && (eqF e 1065353216 && (eqF f 1065353216 && (eqF g 1065353216 && (eqF h 1065353216 && (eqF i 1065353216 && (eqF j 1065353216 && true))))))))) = ((eqF a 0 && (eqF b 0 && (eqF c 0 && true))) && ((eqF e 1065353216 && (eqF f 1065353216 && (eqF g 1065353216 && true))) && (eqF h 1065353216 && (eqF i 1065353216 && (eqF j 1065353216 && true)))))
  simp only [Bool.and_true, Bool.and_assoc]
set_option maxRecDepth 100000 in
theorem eq_whN (a b c e f g h i j : Nat) (w : World) : (Op.equalIn 10000 34 (.agg #[.float .f32 a, .float .f32 b, .float .f32 c, .float .f32 e, .float .f32 f, .float .f32 g, .float .f32 h, .float .f32 i, .float .f32 j]) (.agg #[.float .f32 0, .float .f32 0, .float .f32 0, .float .f32 1065353216, .float .f32 1065353216, .float .f32 1065353216, .float .f32 1065353216, .float .f32 1065353216, .float .f32 1065353216])).run Tryz.prog w = .ok (eqL [a, b, c, e, f, g, h, i, j] neutW) w := by
  have hf := fun x y z u v t => eq_f3G 9997 x y z u v t w
  rw [eqL_wh]
  simp [go_sem, hf]
  cases eqL [a, b, c] [0, 0, 0]
  · simp
  cases eqL [e, f, g] [1065353216, 1065353216, 1065353216]
  · simp
  cases eqL [h, i, j] [1065353216, 1065353216, 1065353216] <;> simp
set_option maxRecDepth 100000 in
theorem eq_mxN (a b c e f g h i j k l m : Nat) (w : World) : (Op.equalIn 10000 43 (.agg #[.float .f32 a, .float .f32 b, .float .f32 c, .float .f32 e, .float .f32 f, .float .f32 g, .float .f32 h, .float .f32 i, .float .f32 j, .float .f32 k, .float .f32 l, .float .f32 m]) (.agg #[.float .f32 1065353216, .float .f32 0, .float .f32 0, .float .f32 0, .float .f32 0, .float .f32 1065353216, .float .f32 0, .float .f32 0, .float .f32 0, .float .f32 0, .float .f32 1065353216, .float .f32 0])).run Tryz.prog w = .ok (eqL [a, b, c, e, f, g, h, i, j, k, l, m] neutM) w := by
  have hf := eq_f12G 9997 a b c e f g h i j k l m w
  simp [go_sem, hf]
  cases eqL [a, b, c, e, f, g, h, i, j, k, l, m] neutM <;> simp
end
end Go.Proofs.YticekgnmiaidjaaGreatDoor
