/- scope.Histogram of a right frame. -/
import Derived.Test.YtoffnmpnhddaiaaHsC
namespace Go.Proofs.Ytoffnmpnhddaiaa
open Go.RowKit

theorem infoI' : (Try.prog.info? 3).map (fun i => (i.zero, i.size, i.bytes)) = some (some (.int .i64 0), 1, 8) := by kernel_rfl
theorem run_makeInts (w : World) (N : Nat) (hN : N ≤ 1000000) :
    (Instr.makeSlice 69 (.int .i64 (N : Int)) (.int .i64 (N : Int))).run Try.prog w = .ok (.slice (some ⟨w.heap.size, 0, none⟩) N N) (w.alloc (.cells (madeCells #[.int .i64 0] N) 3)) := by
  obtain ⟨i0, hi, hz0, hz1, hz2⟩ := info_parts infoI'
  have := run_make (P := Try.prog) w 69 3 i0 (.int .i64 0) Try.underlying69 hi hz0 .i64 .i64 N N (by omega) (Int.le_refl _) (by rw [hz2]; omega) (by omega)
  rw [this, hz1]
  simp [Value.cells]

theorem Bx.other' {w : World} {b a o : Nat} {T : TypeId} {cs : Array Value} {v : Value} (ha : b ≠ a) (h : Bx w b T cs) : Bx (w.setCell ⟨a, o, none⟩ v) b T cs := h.other ⟨a, o, none⟩ v ha
/-- How many of the first k have the answer q. -/
def cOf (F : Nat → Int) (q : Int) : Nat → Nat
  | 0 => 0
  | k + 1 => cOf F q k + if F k = q then 1 else 0
theorem cOf_le (F : Nat → Int) (q : Int) (k : Nat) : cOf F q k ≤ k := by
  induction k with
  | zero => exact Nat.le_refl _
  | succ k ih => rw [cOf]; split <;> omega
theorem cOf_hit {F : Nat → Int} {q : Int} {k : Nat} (h : F k = q) : cOf F q (k + 1) = cOf F q k + 1 := by rw [cOf, if_pos h]
theorem cOf_miss {F : Nat → Int} {q : Int} {k : Nat} (h : F k ≠ q) : cOf F q (k + 1) = cOf F q k := by rw [cOf, if_neg h]; rfl
/-- The counts of the bins. -/
def cntA (F : Nat → Int) (n k : Nat) : Array Value := ((List.range n).map fun (q : Nat) => Value.int .i64 ((cOf F (q : Int) k : Nat) : Int)).toArray
theorem cntA_zero (F : Nat → Int) (n : Nat) : madeCells #[.int .i64 0] n = cntA F n 0 := by
  apply Array.toList_inj.1
  rw [toList_madeCells_one]
  unfold cntA
  apply List.ext_getElem
  · simp
  · intro i h1 h2; simp [cOf]
theorem cntA_at (F : Nat → Int) (n k q : Nat) (h : q < n) : (cntA F n k)[q]? = some (.int .i64 ((cOf F (q : Int) k : Nat) : Int)) := by
  unfold cntA
  simp [h]
theorem cntA_hit (F : Nat → Int) (n k q : Nat) (hF : F k = (q : Int)) : (cntA F n k).setIfInBounds q (.int .i64 ((cOf F (q : Int) k + 1 : Nat) : Int)) = cntA F n (k + 1) := by
  apply Array.toList_inj.1
  rw [Array.toList_setIfInBounds]
  unfold cntA
  apply List.ext_getElem
  · simp
  · intro i h1 h2
    rw [List.getElem_set]
    simp only [List.getElem_map, List.getElem_range]
    by_cases hi : q = i
    · subst hi; rw [if_pos rfl, cOf_hit hF]
    · rw [if_neg hi, cOf_miss (by rw [hF]; omega)]
theorem cntA_miss (F : Nat → Int) (n k : Nat) (hF : ∀ q : Nat, q < n → F k ≠ (q : Int)) : cntA F n k = cntA F n (k + 1) := by
  unfold cntA
  congr 1
  apply List.map_congr_left
  intro q hq
  rw [cOf_miss (hF q (List.mem_range.1 hq))]

theorem scope_values (x y w h : Int) (b o n c M ch : Nat) (xs : List Nat) (W : World) (hck : checkFrame x y w h n = 0) (hM : (M : Int) = w * h) (hM2 : M ≤ 65536) (hn : n = 4 * M) (hch : ch < 5) (hxs : xs.length = n) (hrd : Rd W b o xs)
    (hw1 : 1 ≤ w) (hw2 : w ≤ 256) (hh1 : 1 ≤ h) (hh2 : h ≤ 256) (hnc : n ≤ c) :
    Calls Try.prog 146 #[.agg #[.int .i64 x, .int .i64 y, .int .i64 w, .int .i64 h, .slice (some ⟨b, o, none⟩) n c], .int .i64 (ch : Int)] W fun e w' =>
      ∃ g, e = .returned (.tuple #[.slice (some ⟨g, 0, none⟩) M M, .int .i64 0]) ∧ W.heap.size ≤ g ∧ Row w' g M (valsL xs ch M) ∧ Below W.heap.size W w' := by
  by_cases h4 : ch = 4
  · subst h4
    exact scope_values_lu x y w h b o n c M xs W hck hM hM2 hn hxs hrd hw1 hw2 hh1 hh2 hnc
  · exact scope_values_pl x y w h b o n c M ch xs W hck hM hM2 hn (by omega) hxs hrd hw1 hw2 hh1 hh2

/-- The bin of pixel m. -/
def binM (lo hi n ch : Nat) (xs : List Nat) (m : Nat) : Int := binN lo hi n (valM xs ch m)

set_option maxRecDepth 100000 in
set_option maxHeartbeats 4000000 in
theorem scope_Histogram_ok (x y w h : Int) (b o n c M ch lo hi many : Nat) (xs : List Nat) (W : World) (hck : checkFrame x y w h n = 0) (hM : (M : Int) = w * h) (hM2 : M ≤ 65536) (hn : n = 4 * M) (hch : ch < 5) (hxs : xs.length = n) (hrd : Rd W b o xs)
    (hw1 : 1 ≤ w) (hw2 : w ≤ 256) (hh1 : 1 ≤ h) (hh2 : h ≤ 256) (hnc : n ≤ c) (hbe : binsErr lo hi (many : Int) = 0) :
    Calls Try.prog 80 #[.agg #[.int .i64 x, .int .i64 y, .int .i64 w, .int .i64 h, .slice (some ⟨b, o, none⟩) n c], .int .i64 (ch : Int), .agg #[.float .f32 lo, .float .f32 hi, .int .i64 (many : Int)]] W fun e w' =>
      ∃ g, e = .returned (.tuple #[.agg #[.slice (some ⟨g, 0, none⟩) many many, .int .i64 ((cOf (binM lo hi many ch xs) (-1) M : Nat) : Int), .int .i64 ((cOf (binM lo hi many ch xs) (many : Int) M : Nat) : Int), .int .i64 ((cOf (binM lo hi many ch xs) (-2) M : Nat) : Int)], .int .i64 0]) ∧
        W.heap.size ≤ g ∧ Bx w' g 3 (cntA (binM lo hi many ch xs) many M) ∧ Below W.heap.size W w' := by
  obtain ⟨b1, b2, b3, b4, b5⟩ := binsErr_ok hbe
  have hmk := fun w => run_makeInts w many (by omega)
  have Hh := Lib.hid (And.intro hM (And.intro hn hxs))
  have HB := Lib.hid hbe
  generalize hF : binM lo hi many ch xs = F
  have hFk : ∀ k, k < M → F k = binN lo hi many ((valsL xs ch M).getD k 0) := by
    intro k hk
    rw [← hF]
    unfold binM valsL
    simp [hk]
  have HF := Lib.hid hFk
  clear hM hn hxs hbe hF hFk
  go_enter Try.func80, Try.ntmps80
  go_upto_region 1 with fail
  refine name_world ?_
  intro wb hwb
  have x3 : Bx wb W.heap.size 26 #[.int .i64 x, .int .i64 y, .int .i64 w, .int .i64 h, .slice (some ⟨b, o, none⟩) n c] := by rw [hwb]; exact Bx.alloc (Bx.alloc (Bx.new _ _ _) _) _
  have x5 : Bx wb (W.heap.size + 1) 107 #[.float .f32 lo, .float .f32 hi, .int .i64 (many : Int)] := by rw [hwb]; exact Bx.alloc (Bx.at _ (by simp)) _
  have x6 : Bx wb (W.heap.size + 1 + 1) 109 #[.slice none 0 0, .int .i64 0, .int .i64 0, .int .i64 0] := by rw [hwb]; exact Bx.at _ (by simp)
  have B0 : Below W.heap.size W wb := by rw [hwb]; exact bnew (bnew (bnew (Below.refl _ W)))
  clear hwb
  obtain ⟨q3, f3, l3⟩ := x3.all
  go_wp2_with fail
  have l6' := x6.lt
  refine (scope_values x y w h b o n c M ch xs _ hck Hh.out.1 hM2 Hh.out.2.1 hch Hh.out.2.2 (hrd.keep B0) hw1 hw2 hh1 hh2 hnc).mono ?_
  rintro e w1 ⟨gv, rfl, hgv, hrow, hb1⟩
  have y5 := x5.keep hb1
  have y6 := x6.keep hb1
  have B1 := bcall B0 hb1
  have hgv6 : W.heap.size + 1 + 1 < gv := by omega
  clear x3 x5 x6 B0 hb1 q3 f3 l3 l6' hgv hrd hck
  obtain ⟨q5, f5, l5⟩ := y5.all
  go_wp2_with fail
  refine (scope_CheckBins _ _ _ _).mono ?_
  rw [HB.out]
  rintro e w2 ⟨rfl, hb2⟩
  have x5 := y5.keep hb2
  have x6 := y6.keep hb2
  have row2 := hrow.keep hb2
  have B2 := bcall B1 hb2
  clear y5 y6 B1 hb2 q5 f5 l5 hrow
  obtain ⟨q5, f5, l5⟩ := x5.all
  have lgv := row2.lt
  have l6' := x6.lt
  go_upto_region 7 with fail
  refine name_world ?_
  intro w3 hw3
  have z5 : Bx w3 (W.heap.size + 1) 107 #[.float .f32 lo, .float .f32 hi, .int .i64 (many : Int)] := by rw [hw3]; exact (x5.alloc _).alloc _
  have z6 : Bx w3 (W.heap.size + 1 + 1) 109 #[.slice none 0 0, .int .i64 0, .int .i64 0, .int .i64 0] := by rw [hw3]; exact (x6.alloc _).alloc _
  have rowv : Row w3 gv M (valsL xs ch M) := by rw [hw3]; exact (row2.alloc _).alloc _
  have xg : Bx w3 w2.heap.size 3 (cntA F many 0) := by rw [hw3, ← cntA_zero]; exact Bx.alloc (Bx.new _ _ _) _
  have x10 : Bx w3 (w2.heap.size + 1) 109 #[.slice (some ⟨w2.heap.size, 0, none⟩) many many, .int .i64 0, .int .i64 0, .int .i64 0] := by rw [hw3]; exact Bx.at _ (by simp)
  have B3 : Below W.heap.size W w3 := by rw [hw3]; exact bnew (bnew B2)
  have hsz : W.heap.size + 1 + 1 < w2.heap.size := l6'
  have hgvz : gv < w2.heap.size := lgv
  have hvl := valsL_len xs ch M
  clear hw3 x5 x6 row2 B2 q5 f5 l5 l6' lgv hmk Hh HB
  generalize valsL xs ch M = vs at *
  generalize hp10 : w2.heap.size + 1 = p10 at *
  generalize hpg : w2.heap.size = pg at *
  have hne : pg ≠ p10 := by omega
  have hp1 : pg < p10 := by omega
  clear hp10 hpg w2
  go_wp2_with fail
  go_loopw [34] (fun i wr => ∃ k : Nat, k ≤ M ∧ i = .int .i64 k ∧ Bx wr pg 3 (cntA F many k) ∧ Bx wr p10 109 #[.slice (some ⟨pg, 0, none⟩) many many, .int .i64 ((cOf F (-1) k : Nat) : Int), .int .i64 ((cOf F (many : Int) k : Nat) : Int), .int .i64 ((cOf F (-2) k : Nat) : Int)] ∧
      Bx wr (W.heap.size + 1) 107 #[.float .f32 lo, .float .f32 hi, .int .i64 (many : Int)] ∧ Bx wr (W.heap.size + 1 + 1) 109 #[.slice none 0 0, .int .i64 0, .int .i64 0, .int .i64 0] ∧ Row wr gv M vs ∧ Below W.heap.size W wr) (fun i _ => M - (intOf i).toNat)
  case atStart => exact ⟨0, by omega, rfl, xg, x10, z5, z6, rowv, B3⟩
  case round =>
    clear xg x10 z5 z6 rowv B3
    obtain ⟨k, hk, rfl, xg, x10, z5, z6, rowv, hbl⟩ := hrel
    obtain ⟨q5, f5, l5⟩ := z5.all
    by_cases hlt : k < M
    · have hki : (k : Int) < (M : Int) := by omega
      have hrc := rowv.cell k hlt
      have hFv := HF.out k hlt
      have hbd := binN_bd (v := vs.getD k 0) (n := many) b1 b2 b3 (by omega) (by omega)
      have c1 := cOf_le F (-1) k
      have c2 := cOf_le F (many : Int) k
      have c3 := cOf_le F (-2) k
      generalize vs.getD k 0 = v at hrc hFv hbd
      go_wp2_with fail
      refine (scope_bin lo hi many v _ b1 b2 b3 (by omega) (by omega)).mono ?_
      rintro e wn ⟨rfl, hbn⟩
      rw [← hFv] at hbd ⊢
      have lg := xg.lt
      replace xg := xg.keep hbn
      replace x10 := x10.keep hbn
      replace z5 := z5.keep hbn
      replace z6 := z6.keep hbn
      replace rowv := rowv.keep hbn
      replace hbl := bcall hbl hbn
      clear hbn q5 f5 l5 hrc hFv
      obtain ⟨q5, f5, l5⟩ := z5.all
      obtain ⟨q10, f10, l10⟩ := x10.all
      generalize hr : F k = r at hbd ⊢
      have Hr := Lib.hid hr
      clear hr
      rcases hbd with rfl | rfl | rfl | ⟨q, hq, rfl⟩
      · have e1 := cOf_hit Hr.out
        have e2 := cOf_miss (q := (-1)) (F := F) (k := k) (by rw [Hr.out]; omega)
        have e3 := cOf_miss (q := (many : Int)) (F := F) (k := k) (by rw [Hr.out]; omega)
        have e4 := cntA_miss F many k (by intro q _; rw [Hr.out]; omega)
        have He := Lib.hid (And.intro e1 (And.intro e2 (And.intro e3 e4)))
        clear e1 e2 e3 e4
        go_wp2_with fail
        go_roundw
        case rel =>
          obtain ⟨e1, e2, e3, e4⟩ := He.out
          have x10' := x10.set 3 (.int .i64 ((cOf F (-2) k + 1 : Nat) : Int))
          refine ⟨k + 1, by omega, by go_num, ?_, ?_, Bx.other' (by omega) z5, Bx.other' (by omega) z6, Row.other' (by omega) rowv, bput (by omega) hbl⟩
          · rw [← e4]; exact Bx.other' (by omega) xg
          · rw [e1, e2, e3]; simpa using x10'
        case measure => simp [intOf]; omega
      · have e1 := cOf_hit Hr.out
        have e2 := cOf_miss (q := (-2)) (F := F) (k := k) (by rw [Hr.out]; omega)
        have e3 := cOf_miss (q := (many : Int)) (F := F) (k := k) (by rw [Hr.out]; omega)
        have e4 := cntA_miss F many k (by intro q _; rw [Hr.out]; omega)
        have He := Lib.hid (And.intro e1 (And.intro e2 (And.intro e3 e4)))
        clear e1 e2 e3 e4
        go_wp2_with fail
        go_roundw
        case rel =>
          obtain ⟨e1, e2, e3, e4⟩ := He.out
          have x10' := x10.set 1 (.int .i64 ((cOf F (-1) k + 1 : Nat) : Int))
          refine ⟨k + 1, by omega, by go_num, ?_, ?_, Bx.other' (by omega) z5, Bx.other' (by omega) z6, Row.other' (by omega) rowv, bput (by omega) hbl⟩
          · rw [← e4]; exact Bx.other' (by omega) xg
          · rw [e1, e2, e3]; simpa using x10'
        case measure => simp [intOf]; omega
      · have g1 : ((many : Int) == -2) = false := by simp
        have g2 : ((many : Int) == -1) = false := by simp
        have e1 := cOf_hit Hr.out
        have e2 := cOf_miss (q := (-2)) (F := F) (k := k) (by rw [Hr.out]; omega)
        have e3 := cOf_miss (q := (-1)) (F := F) (k := k) (by rw [Hr.out]; omega)
        have e4 := cntA_miss F many k (by intro q _; rw [Hr.out]; omega)
        have He := Lib.hid (And.intro e1 (And.intro e2 (And.intro e3 e4)))
        clear e1 e2 e3 e4
        go_wp2_with fail
        go_roundw
        case rel =>
          obtain ⟨e1, e2, e3, e4⟩ := He.out
          have x10' := x10.set 2 (.int .i64 ((cOf F (many : Int) k + 1 : Nat) : Int))
          refine ⟨k + 1, by omega, by go_num, ?_, ?_, Bx.other' (by omega) z5, Bx.other' (by omega) z6, Row.other' (by omega) rowv, bput (by omega) hbl⟩
          · rw [← e4]; exact Bx.other' (by omega) xg
          · rw [e1, e2, e3]; simpa using x10'
        case measure => simp [intOf]; omega
      · have g1 : ((q : Int) == -2) = false := by simp
        have g2 : ((q : Int) == -1) = false := by simp
        have g3 : ((q : Int) == (many : Int)) = false := by simp; omega
        have e1 := cOf_miss (q := (-2)) (F := F) (k := k) (by rw [Hr.out]; omega)
        have e2 := cOf_miss (q := (-1)) (F := F) (k := k) (by rw [Hr.out]; omega)
        have e3 := cOf_miss (q := (many : Int)) (F := F) (k := k) (by rw [Hr.out]; omega)
        have e4 := cntA_hit F many k q Hr.out
        have He := Lib.hid (And.intro e1 (And.intro e2 (And.intro e3 e4)))
        have cc := cOf_le F (q : Int) k
        have hcell : wn.cell? ⟨pg, q, none⟩ = some (.int .i64 ((cOf F (q : Int) k : Nat) : Int)) := by rw [xg.all.1 q, cntA_at F many k q hq]
        have hfr := xg.all.2.1 q
        clear e1 e2 e3 e4
        go_wp2_with fail
        go_roundw
        case rel =>
          obtain ⟨e1, e2, e3, e4⟩ := He.out
          have xg' := xg.set q (.int .i64 ((cOf F (q : Int) k + 1 : Nat) : Int))
          rw [e4] at xg'
          refine ⟨k + 1, by omega, by go_num, by simpa using xg', ?_, Bx.other' (by omega) z5, Bx.other' (by omega) z6, Row.other' (by omega) rowv, bput (by omega) hbl⟩
          rw [e1, e2, e3]
          exact Bx.other' (by omega) x10
        case measure => simp [intOf]; omega
    · have hkM : k = M := by omega
      subst hkM
      obtain ⟨q10, f10, l10⟩ := x10.all
      obtain ⟨q6, f6, l6⟩ := z6.all
      go_wp2_with fail
      have yz := (set4 z6 (.slice (some ⟨pg, 0, none⟩) many many) (.int .i64 ((cOf F (-1) k : Nat) : Int)) (.int .i64 ((cOf F (many : Int) k : Nat) : Int)) (.int .i64 ((cOf F (-2) k : Nat) : Int))).1.all.1
      refine bodyPost_ret (v := .tuple #[.agg #[.slice (some ⟨pg, 0, none⟩) many many, .int .i64 ((cOf F (-1) k : Nat) : Int), .int .i64 ((cOf F (many : Int) k : Nat) : Int), .int .i64 ((cOf F (-2) k : Nat) : Int)], .int .i64 0]) (by simp [results, Try.results80, go_sem, yz]) rfl ⟨pg, rfl, by omega, ?_, ?_⟩
      · repeat (refine Bx.other' (by omega) ?_)
        exact xg
      · repeat (refine bput (by omega) ?_)
        exact hbl
end Go.Proofs.Ytoffnmpnhddaiaa
