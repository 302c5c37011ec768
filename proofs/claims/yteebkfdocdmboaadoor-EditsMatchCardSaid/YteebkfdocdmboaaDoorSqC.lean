/- Stable sorting of pulls: a merge of one with a sorted part. -/
import Derived.Test.YteebkfdocdmboaaDoorSqB
namespace Go.Proofs.YteebkfdocdmboaaDoor
open Go.RowKit

set_option maxRecDepth 100000 in
set_option maxHeartbeats 8000000 in
theorem sq_merge1 (g n cp : Nat) (F : FuncId) (c : Pl → Pl → Int) (V : Pl → Prop) (hC : CmpQ F c V) (o : St.Ord c V) (hn : n ≤ 1000000) (A Y B : List Pl) (x : Pl) (W : World) (hr : RowQ W g n (A ++ [x] ++ Y ++ B)) (hY : 0 < Y.length) (sY : St.Srt c Y) (hvx : V x) (vY : St.VL V Y) (a m b : Nat) (ha : a = A.length) (hm : m = a + 1) (hb : b = m + Y.length) :
    Calls Tryd.prog 55 #[.slice (some ⟨g, 0, none⟩) n cp, .int .i64 (a : Int), .int .i64 (m : Int), .int .i64 (b : Int), .func (.func F) #[] #[]] W fun e w' => e = .returned (.tuple #[]) ∧ ∃ Z, RowQ w' g n (A ++ Z ++ B) ∧ St.Srt c Z ∧ St.Stb c V (x :: Y) Z ∧ St.VL V Z ∧ Oth g W w' := by
  have hcf := hC.enter
  have hl := hr.len
  simp only [List.length_append, List.length_singleton] at hl
  have b1 : b ≤ n := by omega
  have b2 : m < b := by omega
  have hma : (m : Int) - (a : Int) = 1 := by omega
  have HA := Lib.hid ha
  have HM := Lib.hid hm
  have HB := Lib.hid hb
  have b3 : a < m := by omega
  clear hl ha hm hb
  go_enter Tryd.func55, Tryd.ntmps55
  go_wp2_with fail
  go_loopw [10, 11] (fun iv jv wr => ∃ (i j : Nat), iv = .int .i64 (i : Int) ∧ jv = .int .i64 (j : Int) ∧ m ≤ i ∧ i ≤ j ∧ j ≤ b ∧ (∀ y ∈ Y.take (i - m), St.lt c y x) ∧ (∀ y ∈ Y.drop (j - m), St.le c x y) ∧ Below W.heap.size W wr) (fun iv jv _ => (intOf jv).toNat - (intOf iv).toNat)
  case atStart => exact ⟨m, b, rfl, rfl, Nat.le_refl _, by omega, Nat.le_refl _, (by rw [Nat.sub_self]; intro y hy; cases hy), (by have := HB.out; rw [show b - m = Y.length by omega, List.drop_length]; intro y hy; cases hy), Below.refl _ _⟩
  case round =>
    obtain ⟨i, j, rfl, rfl, hi, hij, hj, h1, h2, B1⟩ := hrel
    by_cases hlt : i < j
    · obtain ⟨h, hh⟩ : ∃ h : Nat, (i + j) / 2 = h := ⟨_, rfl⟩
      have hhe : ((i : Int) + (j : Int)) / 2 = (h : Int) := by omega
      have k1 : i ≤ h := by omega
      have k2 : h < j := by omega
      clear hh
      have row := hr.keep B1
      have lY : Y.length = b - m := by have := HB.out; omega
      obtain ⟨Y1, Y3, hY3, lY1⟩ := St.split_at (l := Y) (k := h - m) (by omega)
      obtain ⟨y, Y2, rfl⟩ := St.split_one (l := Y3) (by rw [hY3, List.length_append] at lY; omega)
      obtain ⟨⟨p1, p1b, p1c⟩, b4⟩ := rowQ_at (i := h) row (show A ++ [x] ++ Y ++ B = (A ++ [x] ++ Y1) ++ y :: (Y2 ++ B) by rw [hY3]; simp) (by have := HA.out; simp; omega)
      obtain ⟨⟨p2, p2b, p2c⟩, b5⟩ := rowQ_at (i := a) row (show A ++ [x] ++ Y ++ B = A ++ x :: (Y ++ B) by simp) HA.out
      have lg := row.lt
      have vYs := vY
      have sYs := sY
      rw [hY3] at vYs sYs
      have hvy : V y := (St.VL.cons.1 (St.VL.app.1 vYs).2).1
      have vY1 := (St.VL.app.1 vYs).1
      have vY2 := (St.VL.cons.1 (St.VL.app.1 vYs).2).2
      obtain ⟨t1, t2, t3⟩ := St.Srt.app.1 sYs
      have t4 := List.pairwise_cons.1 t2
      obtain ⟨r, hr2⟩ : ∃ r, c y x = r := ⟨_, rfl⟩
      have g1 : r < 0 → ∀ z ∈ Y.take (h + 1 - m), St.lt c z x := by
        intro hneg z hz
        have hyx : St.lt c y x := by rw [← hr2] at hneg; exact hneg
        rw [hY3, show h + 1 - m = Y1.length + 1 by omega, List.take_length_add_append, List.take_succ_cons, List.take_zero] at hz
        rcases List.mem_append.1 hz with hz | hz
        · exact St.lt_of_le_lt o (vY1 z hz) hvy hvx (t3 z hz y List.mem_cons_self) hyx
        · have : z = y := by simpa using hz
          subst this; exact hyx
      have g2 : ¬ r < 0 → ∀ z ∈ Y.drop (h - m), St.le c x z := by
        intro hneg z hz
        have hxy : St.le c x y := by rw [← hr2] at hneg; exact hneg
        rw [hY3, ← lY1, List.drop_left] at hz
        rcases List.mem_cons.1 hz with rfl | hz
        · exact hxy
        · exact St.le_trans o hvx hvy (vY2 z hz) hxy (t4.1 z hz)
      have HD := Lib.hid (And.intro h1 (And.intro h2 (And.intro g1 g2)))
      clear h1 h2 g1 g2 hY3 lY lY1 vYs sYs vY1 vY2 t1 t2 t3 t4 row
      go_wp2_with fail
      refine wp_region_all (fun z : BW wr.heap.size wr => z.w) (by kernel_rfl) (by kernel_rfl) (BW.start _ _) rfl ?_
      by_cases hneg : r < 0
      · repeat (go_big_quiet_step (first
          | (exact BW.call (Nat.le_refl _) _ (hC.at hr2 hvy hvx _))))
        refine wpQuiet_nil ?_
        intro z
        have hzb := B1.trans (z.below.mono B1.size)
        generalize z.w = wq at *
        go_wp2_with fail
        go_roundw
        case rel => exact ⟨h + 1, j, by go_num, rfl, by omega, by omega, hj, HD.out.2.2.1 hneg, HD.out.2.1, hzb⟩
        case measure => simp [intOf] <;> omega
      · repeat (go_big_quiet_step (first
          | (exact BW.call (Nat.le_refl _) _ (hC.at hr2 hvy hvx _))))
        refine wpQuiet_nil ?_
        intro z
        have hzb := B1.trans (z.below.mono B1.size)
        generalize z.w = wq at *
        go_wp2_with fail
        go_roundw
        case rel => exact ⟨i, h, rfl, rfl, hi, k1, by omega, HD.out.1, HD.out.2.2.2 (by omega), hzb⟩
        case measure => simp [intOf] <;> omega
    · obtain rfl : j = i := by omega
      obtain ⟨S1, S2, rfl, lS1⟩ := St.split_at (l := Y) (k := j - m) (by have := HB.out; omega)
      rw [← lS1, List.take_left] at h1
      rw [← lS1, List.drop_left] at h2
      obtain ⟨z1, z2⟩ := St.insert_left o vY hvx sY h1 h2
      have vZ : St.VL V (S1 ++ x :: S2) := St.VL.app.2 ⟨(St.VL.app.1 vY).1, St.VL.cons.2 ⟨hvx, (St.VL.app.1 vY).2⟩⟩
      have row := hr.keep B1
      have HZ := Lib.hid (And.intro z1 (And.intro z2 vZ))
      have oth : Oth g W wr := Oth.of_below B1
      clear z1 z2 vZ h1 h2 sY vY hr
      go_wp2_with fail
      go_loopw [13] (fun kv wr2 => ∃ (k : Nat) (D E : List Pl), kv = .int .i64 (k : Int) ∧ S1 = D ++ E ∧ k = a + D.length ∧ RowQ wr2 g n (A ++ D ++ x :: E ++ S2 ++ B) ∧ Oth g W wr2) (fun kv _ => j - (intOf kv).toNat)
      case atStart => exact ⟨a, [], S1, rfl, rfl, rfl, by simpa using row, oth⟩
      case round =>
        clear row oth
        obtain ⟨k, D, E, rfl, hDE, hk, row, oth⟩ := hrel
        have lDE : S1.length = D.length + E.length := by rw [hDE, List.length_append]
        by_cases hlt2 : k + 1 < j
        · obtain ⟨y, E2, rfl⟩ := St.split_one (l := E) (by omega)
          have e1 : A ++ D ++ x :: y :: E2 ++ S2 ++ B = (A ++ D) ++ x :: y :: (E2 ++ S2 ++ B) := by simp
          have l1 : k = (A ++ D).length := by have := HA.out; simp; omega
          obtain ⟨⟨p1, p1b, p1c⟩, b4⟩ := rowQ_at row e1 l1
          obtain ⟨⟨p2, p2b, p2c⟩, b5⟩ := rowQ_at (i := k + 1) row (show A ++ D ++ x :: y :: E2 ++ S2 ++ B = (A ++ D ++ [x]) ++ y :: (E2 ++ S2 ++ B) by simp) (by have := HA.out; simp; omega)
          have f1 := row.frozen
          have f2 := row.frozen
          have row3 : RowQ (put3 (put3 wr g (k) y) g (k + 1) x) g n (A ++ (D ++ [y]) ++ x :: E2 ++ S2 ++ B) := by simpa using rowQ_swap row e1 l1
          have oth3 : Oth g W (put3 (put3 wr g (k) y) g (k + 1) x) := oth.trans (Oth.of_only (put3_only (put3_only (Only.refl g wr))))
          replace row3 := row3.drew
          replace oth3 := oth3.drew
          simp only [put3] at row3 oth3
          obtain ⟨ne1, ne2, ne3, ne4, ne5, ne6, ne7, ne8, nea⟩ := ne9 (show k ≠ k + 1 by omega)
          obtain ⟨nf1, nf2, nf3, nf4, nf5, nf6, nf7, nf8, nfa⟩ := ne9 (show k + 1 ≠ k by omega)
          have H2 := Lib.hid (And.intro row3 (And.intro oth3 (And.intro hDE hk)))
          have hkj : (k : Int) < (j : Int) - 1 := by omega
          clear row oth row3 oth3 e1 l1 hDE hk lDE
          go_wp2_with fail
          go_region
          all_goals go_wp2_with fail
          all_goals go_roundw
          case rel => exact ⟨k + 1, D ++ [y], E2, by go_num, by rw [H2.out.2.2.1]; simp, by rw [H2.out.2.2.2, List.length_append, List.length_singleton]; omega, H2.out.1, H2.out.2.1⟩
          case measure => simp [intOf] <;> omega
        · obtain rfl : E = [] := List.length_eq_zero_iff.1 (by omega)
          rw [List.append_nil] at hDE
          subst hDE
          have hkj : ¬ (k : Int) < (j : Int) - 1 := by omega
          have H2 := Lib.hid (And.intro row oth)
          clear row oth
          go_wp2_with fail
          first | go_end0 | (simp only [Exit.inBlock, Exit.then]; refine bodyPost_ret (results_none rfl _ _ _) rfl ?_) | refine bodyPost_ret (results_none rfl _ _ _) rfl ?_
          exact ⟨rfl, S1 ++ x :: S2, by simpa using H2.out.1, HZ.out.1, HZ.out.2.1, HZ.out.2.2, H2.out.2⟩

set_option maxRecDepth 100000 in
set_option maxHeartbeats 8000000 in
theorem sq_merge2 (g n cp : Nat) (F : FuncId) (c : Pl → Pl → Int) (V : Pl → Prop) (hC : CmpQ F c V) (o : St.Ord c V) (hn : n ≤ 1000000) (A X B : List Pl) (y : Pl) (W : World) (hr : RowQ W g n (A ++ X ++ [y] ++ B)) (hX : 2 ≤ X.length) (sX : St.Srt c X) (hvy : V y) (vX : St.VL V X) (a m b : Nat) (ha : a = A.length) (hm : m = a + X.length) (hb : b = m + 1) :
    Calls Tryd.prog 55 #[.slice (some ⟨g, 0, none⟩) n cp, .int .i64 (a : Int), .int .i64 (m : Int), .int .i64 (b : Int), .func (.func F) #[] #[]] W fun e w' => e = .returned (.tuple #[]) ∧ ∃ Z, RowQ w' g n (A ++ Z ++ B) ∧ St.Srt c Z ∧ St.Stb c V (X ++ [y]) Z ∧ St.VL V Z ∧ Oth g W w' := by
  have hcf := hC.enter
  have hl := hr.len
  simp only [List.length_append, List.length_singleton] at hl
  have b1 : b ≤ n := by omega
  have b2 : m < b := by omega
  have hma : (b : Int) - (m : Int) = 1 := by omega
  have hm2 : ((m : Int) - (a : Int) == 1) = false := beq_eq_false_iff_ne.2 (by omega)
  have HA := Lib.hid ha
  have HM := Lib.hid hm
  have HB := Lib.hid hb
  have b3 : a + 2 ≤ m := by omega
  clear hl ha hm hb
  go_enter Tryd.func55, Tryd.ntmps55
  go_wp2_with fail
  go_loopw [14, 15] (fun iv jv wr => ∃ (i j : Nat), iv = .int .i64 (i : Int) ∧ jv = .int .i64 (j : Int) ∧ a ≤ i ∧ i ≤ j ∧ j ≤ m ∧ (∀ x ∈ X.take (i - a), St.le c x y) ∧ (∀ x ∈ X.drop (j - a), St.lt c y x) ∧ Below W.heap.size W wr) (fun iv jv _ => (intOf jv).toNat - (intOf iv).toNat)
  case atStart => exact ⟨a, m, rfl, rfl, Nat.le_refl _, by omega, Nat.le_refl _, (by rw [Nat.sub_self]; intro y hy; cases hy), (by have := HM.out; rw [show m - a = X.length by omega, List.drop_length]; intro y hy; cases hy), Below.refl _ _⟩
  case round =>
    obtain ⟨i, j, rfl, rfl, hi, hij, hj, h1, h2, B1⟩ := hrel
    by_cases hlt : i < j
    · obtain ⟨h, hh⟩ : ∃ h : Nat, (i + j) / 2 = h := ⟨_, rfl⟩
      have hhe : ((i : Int) + (j : Int)) / 2 = (h : Int) := by omega
      have k1 : i ≤ h := by omega
      have k2 : h < j := by omega
      clear hh
      have row := hr.keep B1
      have lX : X.length = m - a := by have := HM.out; omega
      obtain ⟨X1, X3, hX3, lX1⟩ := St.split_at (l := X) (k := h - a) (by omega)
      obtain ⟨x, X2, rfl⟩ := St.split_one (l := X3) (by rw [hX3, List.length_append] at lX; omega)
      obtain ⟨⟨p1, p1b, p1c⟩, b4⟩ := rowQ_at (i := h) row (show A ++ X ++ [y] ++ B = (A ++ X1) ++ x :: (X2 ++ [y] ++ B) by rw [hX3]; simp) (by have := HA.out; simp; omega)
      obtain ⟨⟨p2, p2b, p2c⟩, b5⟩ := rowQ_at (i := m) row (show A ++ X ++ [y] ++ B = (A ++ X) ++ y :: B by simp) (by have := HA.out; have := HM.out; simp; omega)
      have lg := row.lt
      have vXs := vX
      have sXs := sX
      rw [hX3] at vXs sXs
      have hvx : V x := (St.VL.cons.1 (St.VL.app.1 vXs).2).1
      have vX1 := (St.VL.app.1 vXs).1
      have vX2 := (St.VL.cons.1 (St.VL.app.1 vXs).2).2
      obtain ⟨t1, t2, t3⟩ := St.Srt.app.1 sXs
      have t4 := List.pairwise_cons.1 t2
      obtain ⟨r, hr2⟩ : ∃ r, c y x = r := ⟨_, rfl⟩
      have g1 : ¬ r < 0 → ∀ z ∈ X.take (h + 1 - a), St.le c z y := by
        intro hneg z hz
        have hxy : St.le c x y := by rw [← hr2] at hneg; exact hneg
        rw [hX3, show h + 1 - a = X1.length + 1 by omega, List.take_length_add_append, List.take_succ_cons, List.take_zero] at hz
        rcases List.mem_append.1 hz with hz | hz
        · exact St.le_trans o (vX1 z hz) hvx hvy (t3 z hz x List.mem_cons_self) hxy
        · have : z = x := by simpa using hz
          subst this; exact hxy
      have g2 : r < 0 → ∀ z ∈ X.drop (h - a), St.lt c y z := by
        intro hneg z hz
        have hyx : St.lt c y x := by rw [← hr2] at hneg; exact hneg
        rw [hX3, ← lX1, List.drop_left] at hz
        rcases List.mem_cons.1 hz with rfl | hz
        · exact hyx
        · exact St.lt_of_lt_le o hvy hvx (vX2 z hz) hyx (t4.1 z hz)
      have HD := Lib.hid (And.intro h1 (And.intro h2 (And.intro g1 g2)))
      clear h1 h2 g1 g2 hX3 lX lX1 vXs sXs vX1 vX2 t1 t2 t3 t4 row
      go_wp2_with fail
      refine wp_region_all (fun z : BW wr.heap.size wr => z.w) (by kernel_rfl) (by kernel_rfl) (BW.start _ _) rfl ?_
      by_cases hneg : r < 0
      · repeat (go_big_quiet_step (first
          | (exact BW.call (Nat.le_refl _) _ (hC.at hr2 hvy hvx _))))
        refine wpQuiet_nil ?_
        intro z
        have hzb := B1.trans (z.below.mono B1.size)
        generalize z.w = wq at *
        go_wp2_with fail
        go_roundw
        case rel => exact ⟨i, h, rfl, rfl, hi, k1, by omega, HD.out.1, HD.out.2.2.2 hneg, hzb⟩
        case measure => simp [intOf] <;> omega
      · repeat (go_big_quiet_step (first
          | (exact BW.call (Nat.le_refl _) _ (hC.at hr2 hvy hvx _))))
        refine wpQuiet_nil ?_
        intro z
        have hzb := B1.trans (z.below.mono B1.size)
        generalize z.w = wq at *
        go_wp2_with fail
        go_roundw
        case rel => exact ⟨h + 1, j, by go_num, rfl, by omega, by omega, hj, HD.out.2.2.1 (by omega), HD.out.2.1, hzb⟩
        case measure => simp [intOf] <;> omega
    · obtain rfl : j = i := by omega
      obtain ⟨S1, S2, rfl, lS1⟩ := St.split_at (l := X) (k := j - a) (by have := HM.out; omega)
      rw [← lS1, List.take_left] at h1
      rw [← lS1, List.drop_left] at h2
      obtain ⟨z1, z2⟩ := St.insert_at o vX hvy sX h1 h2
      have vZ : St.VL V (S1 ++ y :: S2) := St.VL.app.2 ⟨(St.VL.app.1 vX).1, St.VL.cons.2 ⟨hvy, (St.VL.app.1 vX).2⟩⟩
      have row := hr.keep B1
      have HZ := Lib.hid (And.intro z1 (And.intro z2 vZ))
      have oth : Oth g W wr := Oth.of_below B1
      have hmj : m = j + S2.length := by have := HM.out; rw [List.length_append] at this; omega
      have HMJ := Lib.hid hmj
      clear z1 z2 vZ h1 h2 sX vX hr hmj
      go_wp2_with fail
      go_loopw [17] (fun kv wr2 => ∃ (k : Nat) (D E : List Pl), kv = .int .i64 (k : Int) ∧ S2 = D ++ E ∧ k = j + D.length ∧ RowQ wr2 g n (A ++ S1 ++ D ++ y :: E ++ B) ∧ Oth g W wr2) (fun kv _ => (intOf kv).toNat)
      case atStart => exact ⟨m, S2, [], rfl, by simp, HMJ.out, by simpa using row, oth⟩
      case round =>
        clear row oth
        obtain ⟨k, D, E, rfl, hDE, hk, row, oth⟩ := hrel
        have hkm : k ≤ m := by have := HMJ.out; rw [hDE, List.length_append] at this; omega
        by_cases hlt2 : j < k
        · obtain ⟨D2, z, rfl⟩ := St.split_last (l := D) (by omega)
          rw [List.length_append, List.length_singleton] at hk
          obtain ⟨k0, rfl⟩ : ∃ k0, k = k0 + 1 := ⟨k - 1, by omega⟩
          have e1 : A ++ S1 ++ (D2 ++ [z]) ++ y :: E ++ B = (A ++ S1 ++ D2) ++ z :: y :: (E ++ B) := by simp
          have l1 : k0 = (A ++ S1 ++ D2).length := by have := HA.out; simp; omega
          obtain ⟨⟨p1, p1b, p1c⟩, b4⟩ := rowQ_at row e1 l1
          obtain ⟨⟨p2, p2b, p2c⟩, b5⟩ := rowQ_at (i := k0 + 1) row (show A ++ S1 ++ (D2 ++ [z]) ++ y :: E ++ B = (A ++ S1 ++ D2 ++ [z]) ++ y :: (E ++ B) by simp) (by have := HA.out; simp; omega)
          have f1 := row.frozen
          have f2 := row.frozen
          have row3 : RowQ (put3 (put3 wr g (k0 + 1) z) g (k0) y) g n (A ++ S1 ++ D2 ++ y :: (z :: E) ++ B) := by simpa using rowQ_swap' row e1 l1
          have oth3 : Oth g W (put3 (put3 wr g (k0 + 1) z) g (k0) y) := oth.trans (Oth.of_only (put3_only (put3_only (Only.refl g wr))))
          replace row3 := row3.drew
          replace oth3 := oth3.drew
          simp only [put3] at row3 oth3
          obtain ⟨ne1, ne2, ne3, ne4, ne5, ne6, ne7, ne8, nea⟩ := ne9 (show k0 ≠ k0 + 1 by omega)
          obtain ⟨nf1, nf2, nf3, nf4, nf5, nf6, nf7, nf8, nfa⟩ := ne9 (show k0 + 1 ≠ k0 by omega)
          have H2 := Lib.hid (And.intro row3 (And.intro oth3 (And.intro hDE hk)))
          have hkj : (j : Int) < (k0 : Int) + 1 := by omega
          clear row oth row3 oth3 e1 l1 hDE hk
          go_wp2_with fail
          go_region
          all_goals go_wp2_with fail
          all_goals go_roundw
          case rel => exact ⟨k0, D2, z :: E, by go_num, by rw [H2.out.2.2.1]; simp, by have := H2.out.2.2.2; omega, H2.out.1, H2.out.2.1⟩
          case measure => simp [intOf] <;> omega
        · obtain rfl : D = [] := List.length_eq_zero_iff.1 (by omega)
          rw [List.nil_append] at hDE
          subst hDE
          have hkj : ¬ (j : Int) < (k : Int) := by omega
          have H2 := Lib.hid (And.intro row oth)
          clear row oth
          go_wp2_with fail
          first | go_end0 | (simp only [Exit.inBlock, Exit.then]; refine bodyPost_ret (results_none rfl _ _ _) rfl ?_) | refine bodyPost_ret (results_none rfl _ _ _) rfl ?_
          exact ⟨rfl, S1 ++ y :: S2, by simpa using H2.out.1, HZ.out.1, by first | exact HZ.out.2.1 | (rw [← List.append_assoc]; exact HZ.out.2.1), HZ.out.2.2, H2.out.2⟩
end Go.Proofs.YteebkfdocdmboaaDoor
