/- frame.Parse. (printed by gen_fpg.py) -/
import Derived.Test.YtckadkobgmnoeaaDoorFpO
import Derived.RegionTactic
namespace Go.Proofs.YtckadkobgmnoeaaDoor
open Go.RowKit


set_option maxRecDepth 100000 in
set_option maxHeartbeats 8000000 in
theorem frame_Parse (t : ByteArray) (W : World) (E : Env W) : Calls Tryd.prog 8 #[.string t] W fun e w' => PO (parseR t) W e w' := by
  obtain ⟨R, hR⟩ : ∃ R, parseR t = R := ⟨_, rfl⟩
  rw [hR]
  unfold parseR at hR
  go_enter Tryd.func8, Tryd.ntmps8
  go_upto_region 1 with fail
  refine name_world ?_
  intro w1 hw1
  obtain ⟨gT, hgT⟩ : ∃ g, g = W.heap.size := ⟨_, rfl⟩
  have xT : Bx w1 gT 9 #[.string t] := by rw [hw1, hgT]; exact Bx.alloc (Bx.new _ _ _) _
  have xR : Bx w1 (gT + 1) 26 #[.int .i64 0, .int .i64 0, .int .i64 0, .int .i64 0, .slice none 0 0] := by rw [hw1, hgT]; exact Bx.at _ (by simp)
  have B1 : Below W.heap.size W w1 := by rw [hw1]; exact ((Below.refl _ _).alloc (Nat.le_refl _) _).alloc (by simp) _
  have hWT : W.heap.size ≤ gT := Nat.le_of_eq hgT.symm
  rw [← hgT]
  clear hw1 hgT
  obtain ⟨gR, hgR⟩ : ∃ g, g = gT + 1 := ⟨_, rfl⟩
  rw [← hgR] at xR ⊢
  have hTR : gT < gR := by omega
  clear hgR
  obtain ⟨qT, fT, lT⟩ := xT.all
  obtain ⟨qR, fR, lR⟩ := xR.all
  by_cases hbig : 1048576 < t.size
  · have hd : decide ((1048576 : Int) < (t.size : Int)) = true := decide_eq_true (by omega)
    rw [if_pos hbig] at hR
    subst hR
    go_wp2_with fail
    obtain ⟨qR, _, _⟩ := (frame_put xR (.int .i64 0) (.int .i64 0) (.int .i64 0) (.int .i64 0) (.slice none 0 0)).all
    refine bodyPost_ret (v := .tuple #[.agg #[.int .i64 0, .int .i64 0, .int .i64 0, .int .i64 0, .slice none 0 0], .int .i64 0, .int .i64 4]) (by simp [results, Tryd.results8, go_sem, qR]) rfl ⟨_, rfl, OutV.nil _ _ _, bput5 (by omega) B1⟩
  have hd : decide ((1048576 : Int) < (t.size : Int)) = false := decide_eq_false (by omega)
  rw [if_neg hbig] at hR
  have HR := Lib.hid hR
  have ht : t.size ≤ 1048576 := by omega
  clear hR hbig
  go_upto_region 5 with fail
  refine name_world ?_
  intro w2 hw2
  obtain ⟨gA, hgA⟩ : ∃ g, g = w1.heap.size := ⟨_, rfl⟩
  have xA : Bx w2 gA 3 #[.int .i64 (-1)] := by rw [hw2, hgA]; exact Bx.new _ _ _
  have hRA : gR < gA := by rw [hgA]; exact lR
  replace xT : Bx w2 gT 9 #[.string t] := by rw [hw2]; exact Bx.alloc xT _
  replace xR : Bx w2 gR 26 #[.int .i64 0, .int .i64 0, .int .i64 0, .int .i64 0, .slice none 0 0] := by rw [hw2]; exact Bx.alloc xR _
  replace B1 : Below W.heap.size W w2 := by rw [hw2]; exact bnew B1
  rw [← hgA]
  clear hw2 hgA qT fT lT qR fR lR
  go_wp2_with fail
  refine (parse_next gT gA t (-1) _ (E.below B1) xT xA (by omega) ht (by omega) (by omega)).mono ?_
  obtain ⟨l0, T1, b1, hc⟩ : ∃ l T' b, cutR t = (l, T', b) := ⟨_, _, _, rfl⟩
  rw [hc]
  rintro e w3 ⟨rfl, n, hw3⟩
  have hcs := cutR_cases t
  rw [hc] at hcs
  have xT2 : Bx w3 gT 9 #[.string T1] := by rw [hw3]; exact Bx.other (Bx.set (w := w2.drewN n) xT 0 _) _ _ (by dsimp only; omega)
  have xA2 : Bx w3 gA 3 #[.int .i64 0] := by rw [hw3]; exact Bx.set (Bx.other (w := w2.drewN n) xA _ _ (by dsimp only; omega)) 0 _
  have xR2 : Bx w3 gR 26 #[.int .i64 0, .int .i64 0, .int .i64 0, .int .i64 0, .slice none 0 0] := by rw [hw3]; exact Bx.other (Bx.other (w := w2.drewN n) xR _ _ (by dsimp only; omega)) _ _ (by dsimp only; omega)
  replace B1 : Below W.heap.size W w3 := by rw [hw3]; exact Below.set' (by omega) (Below.set' (by omega) (below_drewN B1 n))
  clear xT xA xR hw3
  have hl0 : l0.size ≤ 1048576 := by
    rcases hcs with ⟨_, h⟩ | ⟨l, T', h, _, h2, _⟩
    · simp only [Prod.mk.injEq] at h; rw [h.1]; exact ht
    · simp only [Prod.mk.injEq] at h; rw [h.1]; omega
  have HC := Lib.hid hcs
  clear hcs hc
  go_wp2_with fail
  refine (frame_head l0 _ (E.below B1) hl0).mono ?_
  rintro e w4 ⟨⟨hx, hy, hw, hh, ok, rfl, hok⟩, B2⟩
  replace xT := xT2.keep B2
  replace xA := xA2.keep B2
  replace xR := xR2.keep B2
  replace B1 : Below W.heap.size W w4 := B1.trans (B2.mono B1.size)
  clear xT2 xA2 xR2 B2
  go_upto_region 7 with fail
  refine name_world ?_
  intro w5 hw5
  obtain ⟨gH, hgH⟩ : ∃ g, g = w4.heap.size := ⟨_, rfl⟩
  have hAH : gA < gH := by rw [hgH]; exact xA.lt
  trace_state
  have xH : Bx w5 gH 23 #[.int .i64 hx, .int .i64 hy, .int .i64 hw, .int .i64 hh] := by rw [hw5, hgH]; exact Bx.new _ _ _
  replace xT : Bx w5 gT 9 #[.string T1] := by rw [hw5]; exact Bx.alloc xT _
  replace xA : Bx w5 gA 3 #[.int .i64 0] := by rw [hw5]; exact Bx.alloc xA _
  replace xR : Bx w5 gR 26 #[.int .i64 0, .int .i64 0, .int .i64 0, .int .i64 0, .slice none 0 0] := by rw [hw5]; exact Bx.alloc xR _
  replace B1 : Below W.heap.size W w5 := by rw [hw5]; exact bnew B1
  rw [← hgH]
  clear hw5 hgH
  obtain ⟨qA, fA, lA⟩ := xA.all
  obtain ⟨qR, fR, lR⟩ := xR.all
  cases b1
  · have hz : badP 0 9 = R := by
      rcases HC.out with ⟨h, _⟩ | ⟨l, T', h, _⟩
      · have := HR.out
        rw [h] at this; exact this
      · simp at h
    subst hz
    clear HR HC
    go_upto_region 8 with fail
    go_region
    go_wp2_with fail
    obtain ⟨qR, _, _⟩ := (frame_put xR (.int .i64 0) (.int .i64 0) (.int .i64 0) (.int .i64 0) (.slice none 0 0)).all
    refine bodyPost_ret (v := .tuple #[.agg #[.int .i64 0, .int .i64 0, .int .i64 0, .int .i64 0, .slice none 0 0], .int .i64 0, .int .i64 9]) (by simp [results, Tryd.results8, go_sem, qR]) rfl ⟨_, rfl, OutV.nil _ _ _, (bput5 (by omega) B1).drew⟩
  obtain ⟨hsp, hT1⟩ : spl nlB t = l0 :: spl nlB T1 ∧ T1.size ≤ t.size := by
    rcases HC.out with ⟨_, h⟩ | ⟨l, T', h, h2, _, h3⟩
    · simp at h
    · simp only [Prod.mk.injEq, and_true] at h
      obtain ⟨rfl, rfl⟩ := h
      exact ⟨h2, h3⟩
  obtain ⟨m0, r0, hm0⟩ := spl_cons nlB T1 (by decide)
  have HR2 : Hid (parseL (l0 :: m0 :: r0) = R) := Lib.hid (by have := HR.out; rw [hsp, hm0] at this; exact this)
  have HM := Lib.hid hm0
  clear HR HC hsp hm0
  cases hhd : headL (spl spB l0) with
  | none =>
    rw [hhd] at hok
    have hok2 : ok = false := hok
    subst hok2
    have hz : badP 0 9 = R := by have := HR2.out; simp only [parseL] at this; rw [hhd] at this; exact this
    subst hz
    clear HR2 hhd hok
    go_upto_region 8 with fail
    go_region
    go_wp2_with fail
    obtain ⟨qR, _, _⟩ := (frame_put xR (.int .i64 0) (.int .i64 0) (.int .i64 0) (.int .i64 0) (.slice none 0 0)).all
    refine bodyPost_ret (v := .tuple #[.agg #[.int .i64 0, .int .i64 0, .int .i64 0, .int .i64 0, .slice none 0 0], .int .i64 0, .int .i64 9]) (by simp [results, Tryd.results8, go_sem, qR]) rfl ⟨_, rfl, OutV.nil _ _ _, (bput5 (by omega) B1).drew⟩
  | some q =>
  rw [hhd] at hok
  obtain ⟨rfl, rfl⟩ := hok
  have HR3 : Hid ((if checkRegion hx hy hw hh = 0 then (match rowsP hw hh.toNat 1 (m0 :: r0) [] with | (vs, k, e) => if e = 0 then (⟨hx, hy, hw, hh, vs, 0, 0⟩ : PR) else badP k e) else badP 0 (checkRegion hx hy hw hh)) = R) := Lib.hid (by have := HR2.out; simp only [parseL] at this; rw [hhd] at this; exact this)
  clear HR2 hhd
  obtain ⟨qH, fH, lH⟩ := xH.all
  go_wp2_with fail
  refine (frame_CheckRegion hx hy hw hh _).mono ?_
  obtain ⟨c, hc⟩ : ∃ c, checkRegion hx hy hw hh = c := ⟨_, rfl⟩
  rw [hc]
  rintro e w6 ⟨rfl, B2⟩
  replace xT := xT.keep B2
  replace xA := xA.keep B2
  replace xR := xR.keep B2
  replace xH := xH.keep B2
  replace B1 : Below W.heap.size W w6 := B1.trans (B2.mono B1.size)
  clear qA fA lA qR fR lR qH fH lH B2
  obtain ⟨qR, fR, lR⟩ := xR.all
  obtain ⟨qH, fH, lH⟩ := xH.all
  by_cases hc0 : c = 0
  rotate_left
  · have hne : (c != 0) = true := bne_iff_ne.2 hc0
    have hz : badP 0 c = R := by have := HR3.out; rw [hc, if_neg hc0] at this; exact this
    subst hz
    go_wp2_with fail
    obtain ⟨qR, _, _⟩ := (frame_put xR (.int .i64 0) (.int .i64 0) (.int .i64 0) (.int .i64 0) (.slice none 0 0)).all
    refine bodyPost_ret (v := .tuple #[.agg #[.int .i64 0, .int .i64 0, .int .i64 0, .int .i64 0, .slice none 0 0], .int .i64 0, .int .i64 c]) (by simp [results, Tryd.results8, go_sem, qR]) rfl ⟨_, rfl, OutV.nil _ _ _, bput5 (by omega) B1⟩
  subst hc0
  obtain ⟨hw1, hw2, hh1, hh2⟩ := check_ok hc
  have HR4 : Hid ((match rowsP hw hh.toNat 1 (m0 :: r0) [] with | (vs, k, e) => if e = 0 then (⟨hx, hy, hw, hh, vs, 0, 0⟩ : PR) else badP k e) = R) := Lib.hid (by have := HR3.out; rw [hc, if_pos rfl] at this; exact this)
  clear HR3 hc
  obtain ⟨wn, rfl⟩ : ∃ wn : Nat, hw = (wn : Int) := ⟨hw.toNat, by omega⟩
  obtain ⟨hn, rfl⟩ : ∃ hn : Nat, hh = (hn : Int) := ⟨hh.toNat, by omega⟩
  obtain ⟨rvs, rk, rer, hRW⟩ : ∃ a b c, rowsP (wn : Int) hn 1 (spl nlB T1) [] = (a, b, c) := ⟨_, _, _, rfl⟩
  have HRe : Hid ((if rer = 0 then (⟨hx, hy, (wn : Int), (hn : Int), rvs, 0, 0⟩ : PR) else badP rk rer) = R) := Lib.hid (by have := HR4.out; rw [← HM.out, Int.toNat_natCast, hRW] at this; exact this)
  have HRW := Lib.hid hRW
  clear HR4 HM hRW
  go_upto_region 13 with fail
  refine name_world ?_
  intro w7 hw7
  obtain ⟨gF, hgF⟩ : ∃ g, g = w6.heap.size := ⟨_, rfl⟩
  have hHF : gH < gF := by rw [hgF]; exact lH
  have xF : Bx w7 gF 26 #[.int .i64 hx, .int .i64 hy, .int .i64 (wn : Int), .int .i64 (hn : Int), .slice none 0 0] := by rw [hw7, hgF]; exact Bx.new _ _ _
  replace xT : Bx w7 gT 9 #[.string T1] := by rw [hw7]; exact Bx.alloc xT _
  replace xA : Bx w7 gA 3 #[.int .i64 0] := by rw [hw7]; exact Bx.alloc xA _
  replace xR : Bx w7 gR 26 #[.int .i64 0, .int .i64 0, .int .i64 0, .int .i64 0, .slice none 0 0] := by rw [hw7]; exact Bx.alloc xR _
  replace xH : Bx w7 gH 23 #[.int .i64 hx, .int .i64 hy, .int .i64 (wn : Int), .int .i64 (hn : Int)] := by rw [hw7]; exact Bx.alloc xH _
  replace B1 : Below W.heap.size W w7 := by rw [hw7]; exact bnew B1
  rw [← hgF]
  clear hw7 hgF qR fR lR qH fH lH
  obtain ⟨qH, fH, lH⟩ := xH.all
  go_wp2_with fail
  clear qH fH lH
  go_loopw [50] (fun iv wr => ∃ (j : Nat) (T : ByteArray) (acc : List Nat) (vo : Value), iv = .int .i64 (j : Int) ∧ j ≤ hn ∧ T.size ≤ 1048576 ∧ acc.length = 4 * wn * j ∧ Bx wr gT 9 #[.string T] ∧ Bx wr gA 3 #[.int .i64 (j : Int)] ∧ Bx wr gR 26 #[.int .i64 0, .int .i64 0, .int .i64 0, .int .i64 0, .slice none 0 0] ∧ Bx wr gH 23 #[.int .i64 hx, .int .i64 hy, .int .i64 (wn : Int), .int .i64 (hn : Int)] ∧ Bx wr gF 26 #[.int .i64 hx, .int .i64 hy, .int .i64 (wn : Int), .int .i64 (hn : Int), vo] ∧ OutV W.heap.size wr 39 vo (acc.map fun b => .float .f32 b) ∧ Below W.heap.size W wr ∧ Hid (rowsP (wn : Int) (hn - j) (j + 1) (spl nlB T) acc = (rvs, rk, rer))) (fun iv _ => hn - (intOf iv).toNat)
  case atStart => exact ⟨0, T1, [], _, rfl, Nat.zero_le _, by omega, by simp, xT, xA, xR, xH, xF, OutV.nil _ _ _, B1, Lib.hid HRW.out⟩
  case round =>
    clear xT xA xR xH xF B1
    obtain ⟨j, T, acc, vo, rfl, hj, hT, hal, xT, xA, xR, xH, xF, ho, B1, Hr⟩ := hrel
    have HAL := Lib.hid hal
    clear hal
    obtain ⟨va, vn, vc, rfl⟩ : ∃ a n c, vo = .slice a n c := by obtain ⟨a, c, h⟩ := ho.form; exact ⟨a, _, c, h⟩
    by_cases hlt : j < hn
    rotate_left
    · obtain rfl : j = hn := by omega
      have hrr := Hr.out
      rw [Nat.sub_self] at hrr
      simp only [rowsP] at hrr
      obtain ⟨qT, fT, lT⟩ := xT.all
      obtain ⟨qA, fA, lA⟩ := xA.all
      obtain ⟨qR, fR, lR⟩ := xR.all
      obtain ⟨qF, fF, lF⟩ := xF.all
      cases hem : T.toList.isEmpty
      · have hz : badP ((j : Int) + 1) 9 = R := by
          rw [if_neg (fun h => by rw [emp_iff.2 (spl_empty.1 h)] at hem; cases hem)] at hrr
          simp only [Prod.mk.injEq] at hrr
          obtain ⟨_, rfl, rfl⟩ := hrr
          have := HRe.out
          rw [if_neg (by decide)] at this
          rw [← this]; rfl
        subst hz
        clear hrr Hr HRe HRW
        go_upto_region 24 with fail
        go_region
        go_wp2_with fail
        obtain ⟨qR, _, _⟩ := (frame_put xR (.int .i64 0) (.int .i64 0) (.int .i64 0) (.int .i64 0) (.slice none 0 0)).all
        refine bodyPost_ret (v := .tuple #[.agg #[.int .i64 0, .int .i64 0, .int .i64 0, .int .i64 0, .slice none 0 0], .int .i64 ((j : Int) + 1), .int .i64 9]) (by simp [results, Tryd.results8, go_sem, qR]) rfl ⟨_, rfl, OutV.nil _ _ _, (bput5 (by omega) B1).drew⟩
      · have hz : (⟨hx, hy, (wn : Int), (j : Int), acc, 0, 0⟩ : PR) = R := by
          rw [if_pos (spl_empty.2 (emp_iff.1 hem))] at hrr
          simp only [Prod.mk.injEq] at hrr
          obtain ⟨rfl, rfl, rfl⟩ := hrr
          have := HRe.out
          rw [if_pos rfl] at this
          exact this
        subst hz
        clear hrr Hr HRe HRW
        go_wp2_with fail
        obtain ⟨qR2, _, _⟩ := (frame_put xR (.int .i64 hx) (.int .i64 hy) (.int .i64 (wn : Int)) (.int .i64 (j : Int)) (.slice va vn vc)).all
        refine bodyPost_ret (v := .tuple #[.agg #[.int .i64 hx, .int .i64 hy, .int .i64 (wn : Int), .int .i64 (j : Int), .slice va vn vc], .int .i64 0, .int .i64 0]) (by simp [results, Tryd.results8, go_sem, qR2]) rfl ⟨_, rfl, ho.put5 xR (by decide), bput5 (by omega) B1⟩
    obtain ⟨n, hn1⟩ : ∃ n, hn - j = n + 1 := ⟨hn - j - 1, by omega⟩
    go_wp2_with fail
    refine (parse_next gT gA T (j : Int) _ (E.below B1) xT xA (by omega) hT (by omega) (by omega)).mono ?_
    obtain ⟨l, T2, b, hc⟩ : ∃ l T' b, cutR T = (l, T', b) := ⟨_, _, _, rfl⟩
    rw [hc]
    rintro e w3 ⟨rfl, nn, hw3⟩
    have hcs := cutR_cases T
    rw [hc] at hcs
    have xT2 : Bx w3 gT 9 #[.string T2] := by rw [hw3]; exact Bx.other (Bx.set (w := wr.drewN nn) xT 0 _) _ _ (by dsimp only; omega)
    have xA2 : Bx w3 gA 3 #[.int .i64 ((j : Int) + 1)] := by rw [hw3]; exact Bx.set (Bx.other (w := wr.drewN nn) xA _ _ (by dsimp only; omega)) 0 _
    have xR2 : Bx w3 gR 26 #[.int .i64 0, .int .i64 0, .int .i64 0, .int .i64 0, .slice none 0 0] := by rw [hw3]; exact Bx.other (Bx.other (w := wr.drewN nn) xR _ _ (by dsimp only; omega)) _ _ (by dsimp only; omega)
    have xH2 : Bx w3 gH 23 #[.int .i64 hx, .int .i64 hy, .int .i64 (wn : Int), .int .i64 (hn : Int)] := by rw [hw3]; exact Bx.other (Bx.other (w := wr.drewN nn) xH _ _ (by dsimp only; omega)) _ _ (by dsimp only; omega)
    have xF2 : Bx w3 gF 26 #[.int .i64 hx, .int .i64 hy, .int .i64 (wn : Int), .int .i64 (hn : Int), .slice va vn vc] := by rw [hw3]; exact Bx.other (Bx.other (w := wr.drewN nn) xF _ _ (by dsimp only; omega)) _ _ (by dsimp only; omega)
    have ho2 : OutV W.heap.size w3 39 (.slice va vn vc) (acc.map fun b => .float .f32 b) := by
      rw [hw3]
      exact OutV.putT (OutV.putT (ho.drN nn) (show Bx (wr.drewN nn) gT _ _ from xT) (by decide)) (Bx.other (w := wr.drewN nn) xA _ _ (by dsimp only; omega)) (by decide)
    replace B1 : Below W.heap.size W w3 := by rw [hw3]; exact Below.set' (by omega) (Below.set' (by omega) (below_drewN B1 nn))
    clear xT xA xR xH xF ho hw3
    have hl : l.size ≤ 1048576 := by
      rcases hcs with ⟨_, h⟩ | ⟨l', T', h, _, h2, _⟩
      · simp only [Prod.mk.injEq] at h; rw [h.1]; exact hT
      · simp only [Prod.mk.injEq] at h; rw [h.1]; omega
    have HC := Lib.hid hcs
    clear hcs hc
    obtain ⟨vs, er, hrr⟩ : ∃ vs er, rowR l (wn : Int) = (vs, er) := ⟨_, _, rfl⟩
    obtain ⟨qH, fH, lH⟩ := xH2.all
    go_wp2_with fail
    refine (frame_row l (wn : Int) _ (E.below B1) hl).mono ?_
    rw [hrr]
    have HRR := Lib.hid hrr
    clear hrr
    rintro e w5 ⟨v, rfl, ov, B2⟩
    have xT := xT2.keep B2
    have xA := xA2.keep B2
    have xR := xR2.keep B2
    have xH := xH2.keep B2
    have xF := xF2.keep B2
    have ho := ho2.below B2
    replace B1 : Below W.heap.size W w5 := B1.trans (B2.mono B1.size)
    clear xT2 xA2 xR2 xH2 xF2 ho2 qH fH lH B2
    cases b
    · have hz : badP ((j : Int) + 1) 9 = R := by
        rcases HC.out with ⟨h, _⟩ | ⟨l', T', h, _⟩
        · have h1 := Hr.out
          rw [h, hn1] at h1
          simp only [rowsP, Prod.mk.injEq] at h1
          obtain ⟨_, rfl, rfl⟩ := h1
          have := HRe.out
          rw [if_neg (by decide)] at this
          rw [← this]; rfl
        · simp at h
      subst hz
      clear Hr HRe HRW HRR HC ho ov
      obtain ⟨qA, fA, lA⟩ := xA.all
      obtain ⟨qR, fR, lR⟩ := xR.all
      go_upto_region 20 with fail
      go_region
      go_wp2_with fail
      obtain ⟨qR, _, _⟩ := (frame_put xR (.int .i64 0) (.int .i64 0) (.int .i64 0) (.int .i64 0) (.slice none 0 0)).all
      refine bodyPost_ret (v := .tuple #[.agg #[.int .i64 0, .int .i64 0, .int .i64 0, .int .i64 0, .slice none 0 0], .int .i64 ((j : Int) + 1), .int .i64 9]) (by simp [results, Tryd.results8, go_sem, qR]) rfl ⟨_, rfl, OutV.nil _ _ _, (bput5 (by omega) B1).drew⟩
    obtain ⟨hsp, hT2⟩ : spl nlB T = l :: spl nlB T2 ∧ T2.size ≤ T.size := by
      rcases HC.out with ⟨_, h⟩ | ⟨l', T', h, h2, _, h3⟩
      · simp at h
      · simp only [Prod.mk.injEq, and_true] at h
        obtain ⟨rfl, rfl⟩ := h
        exact ⟨h2, h3⟩
    obtain ⟨m, r, hm⟩ := spl_cons nlB T2 (by decide)
    have hstep := Hr.out
    rw [hsp, hn1, hm] at hstep
    simp only [rowsP] at hstep
    rw [HRR.out] at hstep
    by_cases he0 : er = 0
    rotate_left
    · have hne : (er != 0) = true := bne_iff_ne.2 he0
      have hz : badP ((j : Int) + 1) er = R := by
        rw [if_neg he0] at hstep
        simp only [Prod.mk.injEq] at hstep
        obtain ⟨_, rfl, rfl⟩ := hstep
        have := HRe.out
        rw [if_neg he0] at this
        rw [← this]; rfl
      subst hz
      clear Hr HRe HRW HRR HC ho ov hstep hm hsp
      obtain ⟨qA, fA, lA⟩ := xA.all
      obtain ⟨qR, fR, lR⟩ := xR.all
      go_upto_region 20 with fail
      go_region
      go_wp2_with fail
      obtain ⟨qR, _, _⟩ := (frame_put xR (.int .i64 0) (.int .i64 0) (.int .i64 0) (.int .i64 0) (.slice none 0 0)).all
      refine bodyPost_ret (v := .tuple #[.agg #[.int .i64 0, .int .i64 0, .int .i64 0, .int .i64 0, .slice none 0 0], .int .i64 ((j : Int) + 1), .int .i64 er]) (by simp [results, Tryd.results8, go_sem, qR]) rfl ⟨_, rfl, OutV.nil _ _ _, (bput5 (by omega) B1).drew⟩
    subst he0
    have hvl := rowR_len HRR.out
    rw [if_pos rfl, ← hm] at hstep
    have HS : Hid (rowsP (wn : Int) (hn - (j + 1)) (j + 1 + 1) (spl nlB T2) (acc ++ vs) = (rvs, rk, rer)) := Lib.hid (by rw [show hn - (j + 1) = n by omega]; exact hstep)
    clear Hr HRR HC hstep hm hsp
    have hal2 : (acc ++ vs).length = 4 * wn * (j + 1) := by rw [List.length_append, HAL.out, hvl, Nat.mul_add, Nat.mul_one]
    have hbd : 4 * wn * (j + 1) ≤ 262144 := by
      have h1 : 4 * wn * (j + 1) ≤ 4 * 256 * 256 := Nat.mul_le_mul (by omega) (by omega)
      omega
    obtain ⟨qF, fF, lF⟩ := xF.all
    go_upto_region 21 with fail
    go_wp2_with (at_builtin; refine ov_appendN infoF Tryd.underlying24 rfl rfl (.tmp 72) (.tmp 73) rfl rfl rfl ho ov ?a1 ?a2 ?a3 ?a4 ?a5 ?_)
    case a1 =>
      intro h
      have := congrArg List.length h
      rw [List.length_map, hvl] at this
      simp at this; omega
    case a2 => intro u hu; obtain ⟨b, _, rfl⟩ := List.mem_map.1 hu; rfl
    case a3 => rw [List.length_map, List.length_map, ← List.length_append, hal2]; omega
    case a4 => rw [List.length_map, List.length_map, ← List.length_append, hal2]; omega
    case a5 => exact B1.size
    intro v6 w6 ho6 hb6 hx6
    have xT6 := hx6 _ _ _ (by decide) xT
    have xA6 := hx6 _ _ _ (by decide) xA
    have xR6 := hx6 _ _ _ (by decide) xR
    have xH6 := hx6 _ _ _ (by decide) xH
    have xF6 := hx6 _ _ _ (by decide) xF
    have B6 := hb6 _ _ (Nat.le_refl _) B1
    rw [← List.map_append] at ho6
    obtain ⟨wa, wm, wc, rfl⟩ : ∃ a n c, v6 = .slice a n c := by obtain ⟨a, c, h⟩ := ho6.form; exact ⟨a, _, c, h⟩
    clear hb6 hx6 xT xA xR xH xF B1 ho ov qF fF lF
    obtain ⟨qF, fF, lF⟩ := xF6.all
    have hTF : gT ≠ gF := by omega
    have hAF : gA ≠ gF := by omega
    have hRF : gR ≠ gF := by omega
    have hHF2 : gH ≠ gF := by omega
    go_wp2_with fail
    go_roundw
    case rel => exact ⟨j + 1, T2, acc ++ vs, _, by go_num, by omega, by omega, hal2, xT6.other _ _ hTF, xA6.other _ _ hAF, xR6.other _ _ hRF, xH6.other _ _ hHF2, by have := xF6.set 4 (.slice wa wm wc); simpa using this, ho6.putT xF6 (by decide), Below.set' (by omega) B6, HS⟩
    case measure => simp [intOf]; omega
end Go.Proofs.YtckadkobgmnoeaaDoor
