/- Stable sorting of singles: two ranges exchanged, a rotation. -/
import Derived.Test.YtlfcedecobebmaaStP
import Derived.Test.YtlfcedecobebmaaStR
namespace Go.Proofs.Ytlfcedecobebmaa
open Go.RowKit

/-- All blocks but g are as they were; others may have come. -/
structure Oth (g : Nat) (w w' : World) : Prop where
  os : w'.os = w.os
  tape : w'.tape = w.tape
  output : w'.output = w.output
  size : w.heap.size ≤ w'.heap.size
  block : ∀ k, k < w.heap.size → k ≠ g → w'.heap[k]? = w.heap[k]?
theorem Oth.refl (g : Nat) (w : World) : Oth g w w := ⟨rfl, rfl, rfl, Nat.le_refl _, fun _ _ _ => rfl⟩
theorem Oth.trans {g : Nat} {w w1 w2 : World} (h1 : Oth g w w1) (h2 : Oth g w1 w2) : Oth g w w2 :=
  ⟨h2.os.trans h1.os, h2.tape.trans h1.tape, h2.output.trans h1.output, Nat.le_trans h1.size h2.size, fun k hk hg => (h2.block k (Nat.lt_of_lt_of_le hk h1.size) hg).trans (h1.block k hk hg)⟩
theorem Oth.of_only {g : Nat} {w w' : World} (h : Only g w w') : Oth g w w' := ⟨h.os, h.tape, h.output, Nat.le_of_eq h.size.symm, fun k _ hk => h.block k hk⟩
theorem Oth.of_below {g : Nat} {w w' : World} (h : Below w.heap.size w w') : Oth g w w' := ⟨h.os, h.tape, h.output, h.size, fun k hk _ => h.block k hk⟩
theorem Oth.drewN {g : Nat} {w w' : World} (h : Oth g w w') (n : Nat) : Oth g w (w'.drewN n) := ⟨h.os, h.tape, h.output, h.size, h.block⟩
theorem Oth.below {g B : Nat} {w w' : World} (h : Oth g w w') (hB : B ≤ g) (hs : B ≤ w.heap.size) : Below B w w' := ⟨h.os, h.tape, h.output, h.size, fun k hk => h.block k (by omega) (by omega)⟩
theorem Oth.bx {g b : Nat} {w w' : World} {T : TypeId} {cs : Array Value} (h : Oth g w w') (hb : b ≠ g) (x : Bx w b T cs) : Bx w' b T cs := by
  unfold Bx
  rw [h.block b x.lt hb]; exact x

theorem drew_only {b : Nat} {w w' : World} (h : Only b w w') (n : Nat) : Only b w (w'.drewN n) := ⟨h.os, h.tape, h.output, h.size, h.block⟩

set_option maxRecDepth 100000 in
set_option maxHeartbeats 4000000 in
theorem sl_swapRange (g n c : Nat) (fv : Value) (hfv : ∃ F, fv = .func (.func F) #[] #[]) (hn : n ≤ 1000000) (A P M Q B : List Nat) (W : World) (hr : RowP W g n (A ++ P ++ M ++ Q ++ B)) (hPQ : Q.length = P.length) (a b k : Nat) (ha : a = A.length) (hb : b = A.length + P.length + M.length) (hk : k = P.length) :
    Calls Try.prog 62 #[.slice (some ⟨g, 0, none⟩) n c, .int .i64 (a : Int), .int .i64 (b : Int), .int .i64 (k : Int), fv] W fun e w' => e = .returned (.tuple #[]) ∧ RowP w' g n (A ++ Q ++ M ++ P ++ B) ∧ Oth g W w' := by
  obtain ⟨F, rfl⟩ := hfv
  obtain ⟨R, hR⟩ : ∃ R, A ++ Q ++ M ++ P ++ B = R := ⟨_, rfl⟩
  have hl := hr.len
  simp only [List.length_append] at hl
  rw [hR]
  have HR := Lib.hid hR
  have HL := Lib.hid hl
  have HPQ := Lib.hid hPQ
  have HA := Lib.hid ha
  have HB := Lib.hid hb
  have HK := Lib.hid hk
  have b1 : a + k ≤ b := by omega
  have b2 : b + k ≤ n := by omega
  clear hR hl hPQ ha hb hk
  go_enter Try.func62, Try.ntmps62
  go_wp2_with fail
  go_loopw [10] (fun iv wr => ∃ (i : Nat) (A' P' M' Q' B' : List Nat), iv = .int .i64 (i : Int) ∧ i ≤ k ∧ RowP wr g n (A' ++ P' ++ M' ++ Q' ++ B') ∧ Oth g W wr ∧ A'.length = a + i ∧ P'.length = k - i ∧ Q'.length = k - i ∧ M'.length = b - a - k + i ∧ A' ++ Q' ++ M' ++ P' ++ B' = R) (fun iv _ => k - (intOf iv).toNat)
  case atStart => exact ⟨0, A, P, M, Q, B, rfl, Nat.zero_le _, hr, Oth.refl _ _, HA.out.symm, HK.out.symm, by rw [HPQ.out]; exact HK.out.symm, by have h1 := HA.out; have h2 := HB.out; have h3 := HK.out; omega, HR.out⟩
  case round =>
    clear hr
    obtain ⟨i, A', P', M', Q', B', rfl, hi, row, oth, lA, lP, lQ, lM, hR⟩ := hrel
    by_cases hlt : i < k
    · obtain ⟨p, P2, rfl⟩ := St.split_one (l := P') (by omega)
      obtain ⟨q, Q2, rfl⟩ := St.split_one (l := Q') (by omega)
      rw [List.length_cons] at lP lQ
      have e1 : A' ++ p :: P2 ++ M' ++ q :: Q2 ++ B' = A' ++ p :: (P2 ++ M' ++ q :: Q2 ++ B') := by simp
      have e2 : A' ++ p :: P2 ++ M' ++ q :: Q2 ++ B' = (A' ++ p :: P2 ++ M') ++ q :: (Q2 ++ B') := by simp
      have lb : b + i = (A' ++ p :: P2 ++ M').length := by simp; omega
      have p1 : wr.cell? ⟨g, a + i, none⟩ = some (.float .f32 p) := by
        rw [row.cell _ (by omega), e1, List.getD_eq_getElem?_getD, St.get_at lA.symm]; rfl
      have p2 : wr.cell? ⟨g, b + i, none⟩ = some (.float .f32 q) := by
        rw [row.cell _ (by omega), e2, List.getD_eq_getElem?_getD, St.get_at lb]; rfl
      have f1 := row.frozen (a + i)
      have f2 := row.frozen (b + i)
      have hne : a + i ≠ b + i := by omega
      have row2 : RowP ((wr.setCell ⟨g, a + i, none⟩ (.float .f32 q)).setCell ⟨g, b + i, none⟩ (.float .f32 p)) g n ((A' ++ [q]) ++ P2 ++ (M' ++ [p]) ++ Q2 ++ B') := by
        have h1 := (row.store (a + i) q).store (b + i) p
        rw [e1, St.set_at lA.symm, show A' ++ q :: (P2 ++ M' ++ q :: Q2 ++ B') = (A' ++ q :: P2 ++ M') ++ q :: (Q2 ++ B') by simp, St.set_at (by simp; omega)] at h1
        have e3 : (A' ++ [q]) ++ P2 ++ (M' ++ [p]) ++ Q2 ++ B' = A' ++ q :: P2 ++ M' ++ p :: (Q2 ++ B') := by simp
        rw [e3]; exact h1
      have oth2 : Oth g W ((wr.setCell ⟨g, a + i, none⟩ (.float .f32 q)).setCell ⟨g, b + i, none⟩ (.float .f32 p)) := oth.trans (Oth.of_only (((Only.refl g wr).set _ _).set _ _))
      have HR2 := Lib.hid (show (A' ++ [q]) ++ Q2 ++ (M' ++ [p]) ++ P2 ++ B' = R by rw [← hR]; simp)
      have HE := Lib.hid (And.intro row2 oth2)
      have lA2 : (A' ++ [q]).length = a + (i + 1) := by simp; omega
      have lM2 : (M' ++ [p]).length = b - a - k + (i + 1) := by simp; omega
      have HLen := Lib.hid (And.intro lA2 lM2)
      clear row oth hR e1 e2 lb row2 oth2 lA lM lA2 lM2
      go_wp2_with fail
      go_region
      go_wp2_with fail
      go_roundw
      case rel => exact ⟨i + 1, _, _, _, _, _, by go_num, by omega, HE.out.1, HE.out.2.drewN 1, HLen.out.1, by omega, by omega, HLen.out.2, HR2.out⟩
      case measure => simp [intOf]; omega
    · obtain rfl : i = k := by omega
      have h1 : P' = [] := List.length_eq_zero_iff.1 (by omega)
      have h2 : Q' = [] := List.length_eq_zero_iff.1 (by omega)
      subst h1 h2
      go_wp2_with fail
      go_end0
      exact ⟨rfl, by rw [← hR]; exact row, oth⟩
theorem sl_swap (g n c : Nat) (fv : Value) (hfv : ∃ F, fv = .func (.func F) #[] #[]) (hn : n ≤ 1000000) (A P M Q B : List Nat) (W : World) (hr : RowP W g n (A ++ P ++ M ++ Q ++ B)) (hPQ : Q.length = P.length) (a b k : Int) (ha : a = (A.length : Int)) (hb : b = (A.length : Int) + P.length + M.length) (hk : k = (P.length : Int)) :
    Calls Try.prog 62 #[.slice (some ⟨g, 0, none⟩) n c, .int .i64 a, .int .i64 b, .int .i64 k, fv] W fun e w' => e = .returned (.tuple #[]) ∧ RowP w' g n (A ++ Q ++ M ++ P ++ B) ∧ Oth g W w' := by
  obtain rfl : b = ((A.length + P.length + M.length : Nat) : Int) := by rw [hb]; push_cast; rfl
  subst ha hk
  exact sl_swapRange g n c fv hfv hn A P M Q B W hr hPQ _ _ _ rfl rfl rfl

set_option maxRecDepth 100000 in
set_option maxHeartbeats 4000000 in
theorem sl_rotate (g n c : Nat) (fv : Value) (hfv : ∃ F, fv = .func (.func F) #[] #[]) (hn : n ≤ 1000000) (A X Y B : List Nat) (W : World) (hr : RowP W g n (A ++ X ++ Y ++ B)) (hX : 0 < X.length) (hY : 0 < Y.length) (a m b : Int) (ha : a = (A.length : Int)) (hm : m = (A.length : Int) + X.length) (hb : b = (A.length : Int) + X.length + Y.length) :
    Calls Try.prog 61 #[.slice (some ⟨g, 0, none⟩) n c, .int .i64 a, .int .i64 m, .int .i64 b, fv] W fun e w' => e = .returned (.tuple #[]) ∧ RowP w' g n (A ++ Y ++ X ++ B) ∧ Oth g W w' := by
  obtain ⟨R, hR⟩ : ∃ R, A ++ Y ++ X ++ B = R := ⟨_, rfl⟩
  have hl := hr.len
  simp only [List.length_append] at hl
  obtain ⟨i0, hi0⟩ : ∃ i : Nat, X.length = i := ⟨_, rfl⟩
  obtain ⟨j0, hj0⟩ : ∃ i : Nat, Y.length = i := ⟨_, rfl⟩
  obtain ⟨m0, hm0⟩ : ∃ i : Nat, A.length + i0 = i := ⟨_, rfl⟩
  obtain rfl : m = (m0 : Int) := by omega
  rw [hR]
  have HR := Lib.hid hR
  have HX := Lib.hid hi0
  have HY := Lib.hid hj0
  have HA := Lib.hid hm0
  have e1 : (m0 : Int) - a = (i0 : Int) := by omega
  have e2 : b - (m0 : Int) = (j0 : Int) := by omega
  have b1 : m0 ≤ 1000000 := by omega
  have b2 : m0 + j0 ≤ n := by omega
  have b3 : 0 ≤ a := by omega
  have b4 : b ≤ 1000000 := by omega
  have p1 : 0 < i0 := by omega
  have p2 : 0 < j0 := by omega
  have p3 : i0 ≤ m0 := by omega
  clear hR hi0 hj0 hm0 hX hY ha hm hb hl
  go_enter Try.func61, Try.ntmps61
  go_wp2_with fail
  clear e1 e2
  go_loopw [10, 11] (fun iv jv wr => ∃ (i j : Nat) (A' P Q B' : List Nat), iv = .int .i64 (i : Int) ∧ jv = .int .i64 (j : Int) ∧ 0 < i ∧ 0 < j ∧ i ≤ m0 ∧ i ≤ i0 ∧ j ≤ j0 ∧ RowP wr g n (A' ++ P ++ Q ++ B') ∧ Oth g W wr ∧ P.length = i ∧ Q.length = j ∧ A'.length = m0 - i ∧ A' ++ Q ++ P ++ B' = R) (fun iv jv _ => (intOf iv).toNat + (intOf jv).toNat)
  case atStart => exact ⟨i0, j0, A, X, Y, B, rfl, rfl, p1, p2, p3, Nat.le_refl _, Nat.le_refl _, hr, Oth.refl _ _, HX.out, HY.out, by have := HA.out; omega, HR.out⟩
  case round =>
    clear hr
    obtain ⟨i, j, A', P, Q, B', rfl, rfl, hi, hj, him, hi0, hj0, row, oth, lP, lQ, lA, hR⟩ := hrel
    have HR' := Lib.hid hR
    clear hR
    rcases Nat.lt_trichotomy i j with hlt | heq | hgt
    · obtain ⟨Q1, Q2, rfl, lQ1⟩ := St.split_at (l := Q) (k := j - i) (by omega)
      have lQ2 : Q2.length = i := by rw [List.length_append] at lQ; omega
      rw [show A' ++ P ++ (Q1 ++ Q2) ++ B' = A' ++ P ++ Q1 ++ Q2 ++ B' by simp] at row
      have HL := Lib.hid (And.intro lP (And.intro lA (And.intro lQ1 lQ2)))
      clear lP lQ lA lQ1 lQ2
      go_wp2_with fail
      refine (sl_swap g n c _ hfv hn A' P Q1 Q2 B' _ row (by rw [HL.out.1, HL.out.2.2.2]) _ _ _ ?_ ?_ ?_).mono ?_
      · rw [HL.out.2.1]; omega
      · rw [HL.out.2.1, HL.out.1, HL.out.2.2.1]; omega
      · rw [HL.out.1]
      rintro e w2 ⟨rfl, row2, oth2⟩
      clear row
      have H2 := Lib.hid (And.intro row2 (oth.trans oth2))
      clear row2 oth2 oth
      go_wp2_with fail
      go_roundw
      case rel => exact ⟨i, j - i, A', Q2, Q1, P ++ B', rfl, by go_num, by omega, by omega, by omega, by omega, by omega, by have := H2.out.1; simpa [List.append_assoc] using this, H2.out.2, HL.out.2.2.2, HL.out.2.2.1, HL.out.2.1, by rw [← HR'.out]; simp⟩
      case measure => simp [intOf]; omega
    · subst heq
      have e1 : A' ++ P ++ Q ++ B' = A' ++ P ++ [] ++ Q ++ B' := by simp
      rw [e1] at row
      clear e1
      have HL := Lib.hid (And.intro lP (And.intro lA lQ))
      clear lP lQ lA
      go_wp2_with fail
      refine (sl_swap g n c _ hfv hn A' P [] Q B' _ row (by rw [HL.out.1, HL.out.2.2]) _ _ _ ?_ ?_ ?_).mono ?_
      · rw [HL.out.2.1]; omega
      · rw [HL.out.2.1, HL.out.1]; simp; omega
      · rw [HL.out.1]
      rintro e w2 ⟨rfl, row2, oth2⟩
      go_wp2_with fail
      go_end0
      exact ⟨rfl, by rw [← HR'.out]; simpa using row2, oth.trans oth2⟩
    · obtain ⟨P1, P2, rfl, lP1⟩ := St.split_at (l := P) (k := j) (by omega)
      have lP2 : P2.length = i - j := by rw [List.length_append] at lP; omega
      rw [show A' ++ (P1 ++ P2) ++ Q ++ B' = A' ++ P1 ++ P2 ++ Q ++ B' by simp] at row
      have HL := Lib.hid (And.intro lQ (And.intro lA (And.intro lP1 lP2)))
      clear lP lQ lA lP1 lP2
      go_wp2_with fail
      refine (sl_swap g n c _ hfv hn A' P1 P2 Q B' _ row (by rw [HL.out.1, HL.out.2.2.1]) _ _ _ ?_ ?_ ?_).mono ?_
      · rw [HL.out.2.1]; omega
      · rw [HL.out.2.1, HL.out.2.2.1, HL.out.2.2.2]; omega
      · rw [HL.out.2.2.1]
      rintro e w2 ⟨rfl, row2, oth2⟩
      clear row
      have H2 := Lib.hid (And.intro row2 (oth.trans oth2))
      clear row2 oth2 oth
      go_wp2_with fail
      go_roundw
      case rel => exact ⟨i - j, j, A' ++ Q, P2, P1, B', by go_num, rfl, by omega, by omega, by omega, by omega, by omega, by have := H2.out.1; simpa [List.append_assoc] using this, H2.out.2, HL.out.2.2.2, HL.out.2.2.1, by rw [List.length_append, HL.out.2.1, HL.out.1]; omega, by rw [← HR'.out]; simp⟩
      case measure => simp [intOf]; omega
end Go.Proofs.Ytlfcedecobebmaa
