/- Stable sorting of pulls: two ranges exchanged, a rotation. (printed by gen_stq.py) -/
import Derived.Test.YteebkfdocdmboaaDoorStA
import Derived.Test.YteebkfdocdmboaaDoorEmP
namespace Go.Proofs.YteebkfdocdmboaaDoor
open Go.RowKit

def plC (p : Pl) : List Value := [.string p.reel, .int .i64 p.inn, .int .i64 p.out]
def plV (p : Pl) : Value := .agg #[.string p.reel, .int .i64 p.inn, .int .i64 p.out]
def plCells (L : List Pl) : List Value := L.flatMap plC
theorem plCells_append (L K : List Pl) : plCells (L ++ K) = plCells L ++ plCells K := by unfold plCells; rw [List.flatMap_append]
theorem plCells_len (L : List Pl) : (plCells L).length = L.length * 3 := by
  induction L with
  | nil => rfl
  | cons a r ih => show (plC a ++ plCells r).length = _; rw [List.length_append, ih, List.length_cons]; simp [plC]; omega
theorem plCells_get {L : List Pl} {k i : Nat} (hk : k < L.length) (hi : i < 3) : (plCells L)[k * 3 + i]? = (plC (L.getD k default))[i]? := by
  induction L generalizing k with
  | nil => simp at hk
  | cons a r ih =>
    show (plC a ++ plCells r)[k * 3 + i]? = _
    have hl : (plC a).length = 3 := rfl
    cases k with
    | zero => rw [List.getElem?_append_left (by rw [hl]; omega)]; simp
    | succ k =>
      rw [List.getElem?_append_right (by rw [hl]; omega), hl, show (k + 1) * 3 + i - 3 = k * 3 + i by omega, ih (by simpa using hk)]
      simp
theorem plCells_one {L : List Pl} : ∀ u ∈ plCells L, u.oneCell' = true := by
  intro u hu
  unfold plCells at hu
  rw [List.mem_flatMap] at hu
  obtain ⟨f, _, hf⟩ := hu
  simp only [plC, List.mem_cons, List.mem_nil_iff, or_false] at hf
  rcases hf with rfl | rfl | rfl <;> rfl
theorem plCells_set (L : List Pl) (k : Nat) (x : Pl) (hk : k < L.length) (R : List Value) : (((plCells L ++ R).set (k * 3) (.string x.reel)).set (k * 3 + 1) (.int .i64 x.inn)).set (k * 3 + 2) (.int .i64 x.out) = plCells (L.set k x) ++ R := by
  induction L generalizing k with
  | nil => simp at hk
  | cons a r ih =>
    cases k with
    | zero => simp [plCells, plC]
    | succ k =>
      have := ih k (by simpa using hk)
      have e : ∀ (b : Pl) (r : List Pl), plCells (b :: r) = .string b.reel :: .int .i64 b.inn :: .int .i64 b.out :: plCells r := fun _ _ => rfl
      rw [List.set_cons_succ, e, e]
      simp only [List.cons_append]
      have s3 : ∀ (u v z : Value) (l : List Value) (j : Nat) (y : Value), (u :: v :: z :: l).set (j + 3) y = u :: v :: z :: l.set j y := fun _ _ _ _ _ _ => rfl
      rw [show (k + 1) * 3 = k * 3 + 3 by omega, s3, show k * 3 + 3 + 1 = (k * 3 + 1) + 3 by omega, s3, show k * 3 + 3 + 2 = (k * 3 + 2) + 3 by omega, s3, this]

/-- A pull stands at place k of block g. -/
def PlAt (w : World) (g k : Nat) (p : Pl) : Prop := w.cell? ⟨g, k * 3, none⟩ = some (.string p.reel) ∧ w.cell? ⟨g, k * 3 + 1, none⟩ = some (.int .i64 p.inn) ∧ w.cell? ⟨g, k * 3 + 2, none⟩ = some (.int .i64 p.out)
/-- The first n places of block g hold the pulls xs. -/
def RowQ (w : World) (g n : Nat) (xs : List Pl) : Prop :=
  xs.length = n ∧ ∃ (cur : Array Value) (R : List Value), w.heap[g]? = some (.cells cur 38 (0, 0)) ∧ cur.toList = plCells xs ++ R
theorem RowQ.len {w : World} {g n : Nat} {xs : List Pl} (h : RowQ w g n xs) : xs.length = n := h.1
theorem RowQ.lt {w : World} {g n : Nat} {xs : List Pl} (h : RowQ w g n xs) : g < w.heap.size := by
  obtain ⟨_, cur, _, h1, _⟩ := h
  exact (Array.getElem?_eq_some_iff.1 h1).1
theorem RowQ.cell {w : World} {g n : Nat} {xs : List Pl} (h : RowQ w g n xs) (k : Nat) (hk : k < n) : PlAt w g k (xs.getD k default) := by
  obtain ⟨hl, cur, R, h1, h2⟩ := h
  subst hl
  have hc : ∀ i, i < 3 → w.cell? ⟨g, k * 3 + i, none⟩ = (plC (xs.getD k default))[i]? := fun i hi => by
    rw [cell_of_row w g _ cur _ (0, 0) h1, ← Array.getElem?_toList, h2, List.getElem?_append_left (by rw [plCells_len]; omega), plCells_get hk hi]
  exact ⟨hc 0 (by omega), hc 1 (by omega), hc 2 (by omega)⟩
theorem RowQ.frozen {w : World} {g n : Nat} {xs : List Pl} (h : RowQ w g n xs) (k : Nat) : w.frozen? ⟨g, k, none⟩ = false := by
  obtain ⟨hl, cur, R, h1, h2⟩ := h
  exact frozen_of_row w g k cur _ h1
def put3 (w : World) (g k : Nat) (x : Pl) : World := ((w.setCell ⟨g, k * 3, none⟩ (.string x.reel)).setCell ⟨g, k * 3 + 1, none⟩ (.int .i64 x.inn)).setCell ⟨g, k * 3 + 2, none⟩ (.int .i64 x.out)
theorem put3_only {w w' : World} {g k : Nat} {x : Pl} (h : Only g w w') : Only g w (put3 w' g k x) := ((h.set _ _).set _ _).set _ _
theorem RowQ.store {w : World} {g n : Nat} {xs : List Pl} (h : RowQ w g n xs) (k : Nat) (x : Pl) (hk : k < n) : RowQ (put3 w g k x) g n (xs.set k x) := by
  obtain ⟨hl, cur, R, h1, h2⟩ := h
  refine ⟨by simpa using hl, ((cur.setIfInBounds (k * 3) (.string x.reel)).setIfInBounds (k * 3 + 1) (.int .i64 x.inn)).setIfInBounds (k * 3 + 2) (.int .i64 x.out), R, heap_setCell_same _ g _ _ _ _ (heap_setCell_same _ g _ _ _ _ (heap_setCell_same w g _ cur _ _ h1)), ?_⟩
  rw [Array.toList_setIfInBounds, Array.toList_setIfInBounds, Array.toList_setIfInBounds, h2, plCells_set xs k x (by omega) R]
theorem RowQ.below {B : Nat} {w w' : World} {g n : Nat} {xs : List Pl} (h : RowQ w g n xs) (hb : Below B w w') (hg : g < B) : RowQ w' g n xs := by
  obtain ⟨hl, cur, R, h1, h2⟩ := h
  exact ⟨hl, cur, R, by rw [hb.block g hg]; exact h1, h2⟩
theorem RowQ.keep {w w' : World} {g n : Nat} {xs : List Pl} (h : RowQ w g n xs) (hb : Below w.heap.size w w') : RowQ w' g n xs := h.below hb h.lt
theorem RowQ.drewN {w : World} {g n : Nat} {xs : List Pl} (h : RowQ w g n xs) (m : Nat) : RowQ (w.drewN m) g n xs := h
theorem RowQ.drew {w : World} {g n : Nat} {xs : List Pl} (h : RowQ w g n xs) : RowQ w.drew g n xs := h
theorem Oth.drew {g : Nat} {w w' : World} (h : Oth g w w') : Oth g w w'.drew := ⟨h.os, h.tape, h.output, h.size, h.block⟩
theorem ne9 {a b : Nat} (h : a ≠ b) : a * 3 ≠ b * 3 ∧ a * 3 ≠ b * 3 + 1 ∧ a * 3 ≠ b * 3 + 2 ∧ a * 3 + 1 ≠ b * 3 ∧ a * 3 + 1 ≠ b * 3 + 1 ∧ a * 3 + 1 ≠ b * 3 + 2 ∧ a * 3 + 2 ≠ b * 3 ∧ a * 3 + 2 ≠ b * 3 + 1 ∧ a * 3 + 2 ≠ b * 3 + 2 := by omega

set_option maxRecDepth 100000 in
set_option maxHeartbeats 4000000 in
theorem sq_swapRange (g n c : Nat) (fv : Value) (hfv : ∃ F, fv = .func (.func F) #[] #[]) (hn : n ≤ 1000000) (A P M Q B : List Pl) (W : World) (hr : RowQ W g n (A ++ P ++ M ++ Q ++ B)) (hPQ : Q.length = P.length) (a b k : Nat) (ha : a = A.length) (hb : b = A.length + P.length + M.length) (hk : k = P.length) :
    Calls Tryd.prog 77 #[.slice (some ⟨g, 0, none⟩) n c, .int .i64 (a : Int), .int .i64 (b : Int), .int .i64 (k : Int), fv] W fun e w' => e = .returned (.tuple #[]) ∧ RowQ w' g n (A ++ Q ++ M ++ P ++ B) ∧ Oth g W w' := by
  obtain ⟨F, rfl⟩ := hfv
  obtain ⟨R, hR⟩ : ∃ R, A ++ Q ++ M ++ P ++ B = R := ⟨_, rfl⟩
  have hl := hr.len
  simp only [List.length_append] at hl
  rw [hR]
  have HR := Lib.hid hR
  have HL := Lib.hid hl
  have HPQ := Lib.hid hPQ
  have HA := Lib.hid ha
  have HB := Lib.hid hb
  have HK := Lib.hid hk
  have b1 : a + k ≤ b := by omega
  have b2 : b + k ≤ n := by omega
  clear hR hl hPQ ha hb hk
  go_enter Tryd.func77, Tryd.ntmps77
  go_wp2_with fail
  go_loopw [10] (fun iv wr => ∃ (i : Nat) (A' P' M' Q' B' : List Pl), iv = .int .i64 (i : Int) ∧ i ≤ k ∧ RowQ wr g n (A' ++ P' ++ M' ++ Q' ++ B') ∧ Oth g W wr ∧ A'.length = a + i ∧ P'.length = k - i ∧ Q'.length = k - i ∧ M'.length = b - a - k + i ∧ A' ++ Q' ++ M' ++ P' ++ B' = R) (fun iv _ => k - (intOf iv).toNat)
  case atStart => exact ⟨0, A, P, M, Q, B, rfl, Nat.zero_le _, hr, Oth.refl _ _, HA.out.symm, HK.out.symm, by rw [HPQ.out]; exact HK.out.symm, by have h1 := HA.out; have h2 := HB.out; have h3 := HK.out; omega, HR.out⟩
  case round =>
    clear hr
    obtain ⟨i, A', P', M', Q', B', rfl, hi, row, oth, lA, lP, lQ, lM, hR⟩ := hrel
    by_cases hlt : i < k
    · obtain ⟨p, P2, rfl⟩ := St.split_one (l := P') (by omega)
      obtain ⟨q, Q2, rfl⟩ := St.split_one (l := Q') (by omega)
      rw [List.length_cons] at lP lQ
      have e1 : A' ++ p :: P2 ++ M' ++ q :: Q2 ++ B' = A' ++ p :: (P2 ++ M' ++ q :: Q2 ++ B') := by simp
      have e2 : A' ++ p :: P2 ++ M' ++ q :: Q2 ++ B' = (A' ++ p :: P2 ++ M') ++ q :: (Q2 ++ B') := by simp
      have lb : b + i = (A' ++ p :: P2 ++ M').length := by simp; omega
      have p1 : PlAt wr g (a + i) p := by
        have h := row.cell (a + i) (by omega)
        rw [e1, List.getD_eq_getElem?_getD, St.get_at lA.symm] at h; exact h
      have p2 : PlAt wr g (b + i) q := by
        have h := row.cell (b + i) (by omega)
        rw [e2, List.getD_eq_getElem?_getD, St.get_at lb] at h; exact h
      have f1 := row.frozen
      have f2 := row.frozen
      obtain ⟨m1, m2, m3, m4, m5, m6, m7, m8, m9⟩ := ne9 (show a + i ≠ b + i by omega)
      obtain ⟨k1, k2, k3, k4, k5, k6, k7, k8, k9⟩ := ne9 (show b + i ≠ a + i by omega)
      have row2 : RowQ (put3 (put3 wr g (a + i) q) g (b + i) p) g n ((A' ++ [q]) ++ P2 ++ (M' ++ [p]) ++ Q2 ++ B') := by
        have h1 := (row.store (a + i) q (by omega)).store (b + i) p (by omega)
        rw [e1, St.set_at lA.symm, show A' ++ q :: (P2 ++ M' ++ q :: Q2 ++ B') = (A' ++ q :: P2 ++ M') ++ q :: (Q2 ++ B') by simp, St.set_at (by simp; omega)] at h1
        have e3 : (A' ++ [q]) ++ P2 ++ (M' ++ [p]) ++ Q2 ++ B' = A' ++ q :: P2 ++ M' ++ p :: (Q2 ++ B') := by simp
        rw [e3]; exact h1
      have oth2 : Oth g W (put3 (put3 wr g (a + i) q) g (b + i) p) := oth.trans (Oth.of_only (put3_only (put3_only (Only.refl g wr))))
      have HR2 := Lib.hid (show (A' ++ [q]) ++ Q2 ++ (M' ++ [p]) ++ P2 ++ B' = R by rw [← hR]; simp)
      replace row2 := row2.drew
      replace oth2 := oth2.drew
      simp only [put3] at row2 oth2
      have HE := Lib.hid (And.intro row2 oth2)
      have lA2 : (A' ++ [q]).length = a + (i + 1) := by simp; omega
      have lM2 : (M' ++ [p]).length = b - a - k + (i + 1) := by simp; omega
      have HLen := Lib.hid (And.intro lA2 lM2)
      clear row oth hR e1 e2 lb row2 oth2 lA lM lA2 lM2
      obtain ⟨p1, p1b, p1c⟩ := p1
      obtain ⟨p2, p2b, p2c⟩ := p2
      go_wp2_with fail
      go_region
      go_wp2_with fail
      go_roundw
      case rel => exact ⟨i + 1, _, _, _, _, _, by go_num, by omega, HE.out.1, HE.out.2, HLen.out.1, by omega, by omega, HLen.out.2, HR2.out⟩
      case measure => simp [intOf]; omega
    · obtain rfl : i = k := by omega
      have h1 : P' = [] := List.length_eq_zero_iff.1 (by omega)
      have h2 : Q' = [] := List.length_eq_zero_iff.1 (by omega)
      subst h1 h2
      go_wp2_with fail
      go_end0
      exact ⟨rfl, by rw [← hR]; exact row, oth⟩
theorem sq_swap (g n c : Nat) (fv : Value) (hfv : ∃ F, fv = .func (.func F) #[] #[]) (hn : n ≤ 1000000) (A P M Q B : List Pl) (W : World) (hr : RowQ W g n (A ++ P ++ M ++ Q ++ B)) (hPQ : Q.length = P.length) (a b k : Int) (ha : a = (A.length : Int)) (hb : b = (A.length : Int) + P.length + M.length) (hk : k = (P.length : Int)) :
    Calls Tryd.prog 77 #[.slice (some ⟨g, 0, none⟩) n c, .int .i64 a, .int .i64 b, .int .i64 k, fv] W fun e w' => e = .returned (.tuple #[]) ∧ RowQ w' g n (A ++ Q ++ M ++ P ++ B) ∧ Oth g W w' := by
  obtain rfl : b = ((A.length + P.length + M.length : Nat) : Int) := by rw [hb]; push_cast; rfl
  subst ha hk
  exact sq_swapRange g n c fv hfv hn A P M Q B W hr hPQ _ _ _ rfl rfl rfl

set_option maxRecDepth 100000 in
set_option maxHeartbeats 4000000 in
theorem sq_rotate (g n c : Nat) (fv : Value) (hfv : ∃ F, fv = .func (.func F) #[] #[]) (hn : n ≤ 1000000) (A X Y B : List Pl) (W : World) (hr : RowQ W g n (A ++ X ++ Y ++ B)) (hX : 0 < X.length) (hY : 0 < Y.length) (a m b : Int) (ha : a = (A.length : Int)) (hm : m = (A.length : Int) + X.length) (hb : b = (A.length : Int) + X.length + Y.length) :
    Calls Tryd.prog 71 #[.slice (some ⟨g, 0, none⟩) n c, .int .i64 a, .int .i64 m, .int .i64 b, fv] W fun e w' => e = .returned (.tuple #[]) ∧ RowQ w' g n (A ++ Y ++ X ++ B) ∧ Oth g W w' := by
  obtain ⟨R, hR⟩ : ∃ R, A ++ Y ++ X ++ B = R := ⟨_, rfl⟩
  have hl := hr.len
  simp only [List.length_append] at hl
  obtain ⟨i0, hi0⟩ : ∃ i : Nat, X.length = i := ⟨_, rfl⟩
  obtain ⟨j0, hj0⟩ : ∃ i : Nat, Y.length = i := ⟨_, rfl⟩
  obtain ⟨m0, hm0⟩ : ∃ i : Nat, A.length + i0 = i := ⟨_, rfl⟩
  obtain rfl : m = (m0 : Int) := by omega
  rw [hR]
  have HR := Lib.hid hR
  have HX := Lib.hid hi0
  have HY := Lib.hid hj0
  have HA := Lib.hid hm0
  have e1 : (m0 : Int) - a = (i0 : Int) := by omega
  have e2 : b - (m0 : Int) = (j0 : Int) := by omega
  have b1 : m0 ≤ 1000000 := by omega
  have b2 : m0 + j0 ≤ n := by omega
  have b3 : 0 ≤ a := by omega
  have b4 : b ≤ 1000000 := by omega
  have p1 : 0 < i0 := by omega
  have p2 : 0 < j0 := by omega
  have p3 : i0 ≤ m0 := by omega
  clear hR hi0 hj0 hm0 hX hY ha hm hb hl
  go_enter Tryd.func71, Tryd.ntmps71
  go_wp2_with fail
  clear e1 e2
  go_loopw [10, 11] (fun iv jv wr => ∃ (i j : Nat) (A' P Q B' : List Pl), iv = .int .i64 (i : Int) ∧ jv = .int .i64 (j : Int) ∧ 0 < i ∧ 0 < j ∧ i ≤ m0 ∧ i ≤ i0 ∧ j ≤ j0 ∧ RowQ wr g n (A' ++ P ++ Q ++ B') ∧ Oth g W wr ∧ P.length = i ∧ Q.length = j ∧ A'.length = m0 - i ∧ A' ++ Q ++ P ++ B' = R) (fun iv jv _ => (intOf iv).toNat + (intOf jv).toNat)
  case atStart => exact ⟨i0, j0, A, X, Y, B, rfl, rfl, p1, p2, p3, Nat.le_refl _, Nat.le_refl _, hr, Oth.refl _ _, HX.out, HY.out, by have := HA.out; omega, HR.out⟩
  case round =>
    clear hr
    obtain ⟨i, j, A', P, Q, B', rfl, rfl, hi, hj, him, hi0, hj0, row, oth, lP, lQ, lA, hR⟩ := hrel
    have HR' := Lib.hid hR
    clear hR
    rcases Nat.lt_trichotomy i j with hlt | heq | hgt
    · obtain ⟨Q1, Q2, rfl, lQ1⟩ := St.split_at (l := Q) (k := j - i) (by omega)
      have lQ2 : Q2.length = i := by rw [List.length_append] at lQ; omega
      rw [show A' ++ P ++ (Q1 ++ Q2) ++ B' = A' ++ P ++ Q1 ++ Q2 ++ B' by simp] at row
      have HL := Lib.hid (And.intro lP (And.intro lA (And.intro lQ1 lQ2)))
      clear lP lQ lA lQ1 lQ2
      go_wp2_with fail
      refine (sq_swap g n c _ hfv hn A' P Q1 Q2 B' _ row (by rw [HL.out.1, HL.out.2.2.2]) _ _ _ ?_ ?_ ?_).mono ?_
      · rw [HL.out.2.1]; omega
      · rw [HL.out.2.1, HL.out.1, HL.out.2.2.1]; omega
      · rw [HL.out.1]
      rintro e w2 ⟨rfl, row2, oth2⟩
      clear row
      have H2 := Lib.hid (And.intro row2 (oth.trans oth2))
      clear row2 oth2 oth
      go_wp2_with fail
      go_roundw
      case rel => exact ⟨i, j - i, A', Q2, Q1, P ++ B', rfl, by go_num, by omega, by omega, by omega, by omega, by omega, by have := H2.out.1; simpa [List.append_assoc] using this, H2.out.2, HL.out.2.2.2, HL.out.2.2.1, HL.out.2.1, by rw [← HR'.out]; simp⟩
      case measure => simp [intOf]; omega
    · subst heq
      have e1 : A' ++ P ++ Q ++ B' = A' ++ P ++ [] ++ Q ++ B' := by simp
      rw [e1] at row
      clear e1
      have HL := Lib.hid (And.intro lP (And.intro lA lQ))
      clear lP lQ lA
      go_wp2_with fail
      refine (sq_swap g n c _ hfv hn A' P [] Q B' _ row (by rw [HL.out.1, HL.out.2.2]) _ _ _ ?_ ?_ ?_).mono ?_
      · rw [HL.out.2.1]; omega
      · rw [HL.out.2.1, HL.out.1]; simp; omega
      · rw [HL.out.1]
      rintro e w2 ⟨rfl, row2, oth2⟩
      go_wp2_with fail
      go_end0
      exact ⟨rfl, by rw [← HR'.out]; simpa using row2, oth.trans oth2⟩
    · obtain ⟨P1, P2, rfl, lP1⟩ := St.split_at (l := P) (k := j) (by omega)
      have lP2 : P2.length = i - j := by rw [List.length_append] at lP; omega
      rw [show A' ++ (P1 ++ P2) ++ Q ++ B' = A' ++ P1 ++ P2 ++ Q ++ B' by simp] at row
      have HL := Lib.hid (And.intro lQ (And.intro lA (And.intro lP1 lP2)))
      clear lP lQ lA lP1 lP2
      go_wp2_with fail
      refine (sq_swap g n c _ hfv hn A' P1 P2 Q B' _ row (by rw [HL.out.1, HL.out.2.2.1]) _ _ _ ?_ ?_ ?_).mono ?_
      · rw [HL.out.2.1]; omega
      · rw [HL.out.2.1, HL.out.2.2.1, HL.out.2.2.2]; omega
      · rw [HL.out.2.2.1]
      rintro e w2 ⟨rfl, row2, oth2⟩
      clear row
      have H2 := Lib.hid (And.intro row2 (oth.trans oth2))
      clear row2 oth2 oth
      go_wp2_with fail
      go_roundw
      case rel => exact ⟨i - j, j, A' ++ Q, P2, P1, B', by go_num, rfl, by omega, by omega, by omega, by omega, by omega, by have := H2.out.1; simpa [List.append_assoc] using this, H2.out.2, HL.out.2.2.2, HL.out.2.2.1, by rw [List.length_append, HL.out.2.1, HL.out.1]; omega, by rw [← HR'.out]; simp⟩
      case measure => simp [intOf]; omega
end Go.Proofs.YteebkfdocdmboaaDoor
