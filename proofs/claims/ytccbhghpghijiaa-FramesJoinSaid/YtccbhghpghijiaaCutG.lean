/- frame.Cut, frame.Paste. -/
import Derived.Test.YtccbhghpghijiaaCopy
import Derived.Test.YtccbhghpghijiaaCutC
import Derived.Test.YtccbhghpghijiaaCutE
import Derived.RegionTactic
namespace Go.Proofs.Ytccbhghpghijiaa
open Go.RowKit

theorem frame_Inside_is (ax ay aw ah bx b_y bw bh : Int) (r : Bool) (hv : inB ax ay aw ah bx b_y bw bh = r) (W : World) (h1 : -10000000 ≤ bx) (h2 : bx ≤ 10000000) (h3 : -10000000 ≤ b_y) (h4 : b_y ≤ 10000000) (h5 : 0 ≤ bw) (h6 : bw ≤ 1000) (h7 : 0 ≤ bh) (h8 : bh ≤ 1000) (h9 : 0 ≤ aw) (h10 : aw ≤ 1000) (h11 : 0 ≤ ah) (h12 : ah ≤ 1000) (g1 : -10000000 ≤ ax) (g2 : ax ≤ 10000000) (g3 : -10000000 ≤ ay) (g4 : ay ≤ 10000000) :
    Calls Try.prog 17 #[.agg #[.int .i64 ax, .int .i64 ay, .int .i64 aw, .int .i64 ah], .agg #[.int .i64 bx, .int .i64 b_y, .int .i64 bw, .int .i64 bh]] W fun e w' => e = .returned (.bool r) ∧ Below W.heap.size W w' := by
  subst hv
  exact frame_Inside ax ay aw ah bx b_y bw bh W h1 h2 h3 h4 h5 h6 h7 h8 h9 h10 h11 h12 g1 g2 g3 g4

set_option maxRecDepth 100000 in
set_option maxHeartbeats 2000000 in
theorem frame_Cut_bad (x y w h rx ry rw_ rh k : Int) (a : Option Addr) (n c : Nat) (W : World) (hn : n ≤ maxLen) (hc : checkFrame x y w h n = 0) (hr : checkRegion rx ry rw_ rh = k) (hk : k ≠ 0) :
    Calls Try.prog 10 #[.agg #[.int .i64 x, .int .i64 y, .int .i64 w, .int .i64 h, .slice a n c], .agg #[.int .i64 rx, .int .i64 ry, .int .i64 rw_, .int .i64 rh]] W fun e w' => e = .returned (.tuple #[.agg #[.int .i64 0, .int .i64 0, .int .i64 0, .int .i64 0, .slice none 0 0], .int .i64 k]) ∧ Below W.heap.size W w' := by
  go_enter Try.func10, Try.ntmps10
  go_wp2_with fail
  refine nm_call ?_
  intro wb hwb
  have x0 : Bx wb (W.heap.size) 26 #[.int .i64 x, .int .i64 y, .int .i64 w, .int .i64 h, .slice a n c] := by rw [hwb]; exact Bx.alloc (Bx.alloc (Bx.new _ _ _) _) _
  have x1 : Bx wb (W.heap.size + 1) 23 #[.int .i64 rx, .int .i64 ry, .int .i64 rw_, .int .i64 rh] := by rw [hwb]; exact Bx.alloc (Bx.at _ (by simp)) _
  have x2 : Bx wb (W.heap.size + 1 + 1) 26 #[.int .i64 0, .int .i64 0, .int .i64 0, .int .i64 0, .slice none 0 0] := by rw [hwb]; exact Bx.at _ (by simp)
  have B1 : Below W.heap.size W wb := by rw [hwb]; exact bnew (bnew (bnew (Below.refl _ W)))
  clear hwb
  refine (frame_Check _ _ _ _ _ _ _ _ hn).mono ?_
  rw [hc]
  rintro e wa ⟨rfl, hb⟩
  replace x0 := x0.keep hb
  replace x1 := x1.keep hb
  replace x2 := x2.keep hb
  have B2 := bcall B1 hb
  clear hb hc B1
  obtain ⟨q0, f0, l0⟩ := x0.all
  obtain ⟨q1, f1, l1⟩ := x1.all
  obtain ⟨q2, f2, l2⟩ := x2.all
  go_wp2_with fail
  refine (frame_CheckRegion _ _ _ _ _).mono ?_
  rw [hr]
  rintro e wc ⟨rfl, hb⟩
  clear q0 f0 l0 q1 f1 l1 q2 f2 l2
  replace x0 := x0.keep hb
  replace x1 := x1.keep hb
  replace x2 := x2.keep hb
  have B3 := bcall B2 hb
  clear hb hr B2
  obtain ⟨q0, f0, l0⟩ := x0.all
  obtain ⟨q1, f1, l1⟩ := x1.all
  obtain ⟨q2, f2, l2⟩ := x2.all
  go_wp2_with fail
  refine bodyPost_ret (v := .tuple #[.agg #[.int .i64 0, .int .i64 0, .int .i64 0, .int .i64 0, .slice none 0 0], .int .i64 k]) (by simp [results, Try.results10, go_sem, q2]) rfl ⟨rfl, ?_⟩
  exact bput (by omega) (bput (by omega) (bput (by omega) (bput (by omega) (bput (by omega) B3))))

set_option maxRecDepth 100000 in
set_option maxHeartbeats 2000000 in
theorem frame_Cut_out (x y w h rx ry rw_ rh : Int) (a : Option Addr) (n c : Nat) (W : World) (hn : n ≤ maxLen) (hc : checkFrame x y w h n = 0) (hf : checkRegion x y w h = 0) (hr : checkRegion rx ry rw_ rh = 0) (hi : inB rx ry rw_ rh x y w h = false) :
    Calls Try.prog 10 #[.agg #[.int .i64 x, .int .i64 y, .int .i64 w, .int .i64 h, .slice a n c], .agg #[.int .i64 rx, .int .i64 ry, .int .i64 rw_, .int .i64 rh]] W fun e w' => e = .returned (.tuple #[.agg #[.int .i64 0, .int .i64 0, .int .i64 0, .int .i64 0, .slice none 0 0], .int .i64 5]) ∧ Below W.heap.size W w' := by
  obtain ⟨a1, a2, a3, a4, _, a6, a7, a8, a9⟩ := checkRegion_zero hf
  obtain ⟨b1, b2, b3, b4, _, b6, b7, b8, b9⟩ := checkRegion_zero hr
  go_enter Try.func10, Try.ntmps10
  go_wp2_with fail
  refine nm_call ?_
  intro wb hwb
  have x0 : Bx wb (W.heap.size) 26 #[.int .i64 x, .int .i64 y, .int .i64 w, .int .i64 h, .slice a n c] := by rw [hwb]; exact Bx.alloc (Bx.alloc (Bx.new _ _ _) _) _
  have x1 : Bx wb (W.heap.size + 1) 23 #[.int .i64 rx, .int .i64 ry, .int .i64 rw_, .int .i64 rh] := by rw [hwb]; exact Bx.alloc (Bx.at _ (by simp)) _
  have x2 : Bx wb (W.heap.size + 1 + 1) 26 #[.int .i64 0, .int .i64 0, .int .i64 0, .int .i64 0, .slice none 0 0] := by rw [hwb]; exact Bx.at _ (by simp)
  have B1 : Below W.heap.size W wb := by rw [hwb]; exact bnew (bnew (bnew (Below.refl _ W)))
  clear hwb
  refine (frame_Check _ _ _ _ _ _ _ _ hn).mono ?_
  rw [hc]
  rintro e wa ⟨rfl, hb⟩
  replace x0 := x0.keep hb
  replace x1 := x1.keep hb
  replace x2 := x2.keep hb
  have B2 := bcall B1 hb
  clear hb hc B1 hf
  obtain ⟨q0, f0, l0⟩ := x0.all
  obtain ⟨q1, f1, l1⟩ := x1.all
  obtain ⟨q2, f2, l2⟩ := x2.all
  go_wp2_with fail
  refine (frame_CheckRegion _ _ _ _ _).mono ?_
  rw [hr]
  rintro e wc ⟨rfl, hb⟩
  clear q0 f0 l0 q1 f1 l1 q2 f2 l2
  replace x0 := x0.keep hb
  replace x1 := x1.keep hb
  replace x2 := x2.keep hb
  have B3 := bcall B2 hb
  clear hb hr B2
  obtain ⟨q0, f0, l0⟩ := x0.all
  obtain ⟨q1, f1, l1⟩ := x1.all
  obtain ⟨q2, f2, l2⟩ := x2.all
  go_wp2_with fail
  refine (frame_Inside_is _ _ _ _ _ _ _ _ _ hi _ (by omega) (by omega) (by omega) (by omega) (by omega) (by omega) (by omega) (by omega) (by omega) (by omega) (by omega) (by omega) (by omega) (by omega) (by omega) (by omega)).mono ?_
  rintro e wd ⟨rfl, hb⟩
  clear q0 f0 l0 q1 f1 l1 q2 f2 l2
  replace x0 := x0.keep hb
  replace x1 := x1.keep hb
  replace x2 := x2.keep hb
  have B4 := bcall B3 hb
  clear hb hi B3
  obtain ⟨q0, f0, l0⟩ := x0.all
  obtain ⟨q1, f1, l1⟩ := x1.all
  obtain ⟨q2, f2, l2⟩ := x2.all
  go_wp2_with fail
  refine bodyPost_ret (v := .tuple #[.agg #[.int .i64 0, .int .i64 0, .int .i64 0, .int .i64 0, .slice none 0 0], .int .i64 5]) (by simp [results, Try.results10, go_sem, q2]) rfl ⟨rfl, ?_⟩
  exact bput (by omega) (bput (by omega) (bput (by omega) (bput (by omega) (bput (by omega) B4))))

set_option maxRecDepth 100000 in
set_option maxHeartbeats 2000000 in
theorem frame_Cut_ok (x y rx ry : Int) (w h rw_ rh i1 j1 b o n c : Nat) (xs : List Nat) (W : World) (hc : checkFrame x y w h n = 0) (hf : checkRegion x y w h = 0) (hr : checkRegion rx ry rw_ rh = 0)
    (hN : n = 4 * (w * h)) (hxs : xs.length = n) (hrd : Rd W b o xs) (ex : rx = x + i1) (ey : ry = y + j1) (hrw : i1 + rw_ ≤ w) (hrh : j1 + rh ≤ h) :
    Calls Try.prog 10 #[.agg #[.int .i64 x, .int .i64 y, .int .i64 (w : Int), .int .i64 (h : Int), .slice (some ⟨b, o, none⟩) n c], .agg #[.int .i64 rx, .int .i64 ry, .int .i64 (rw_ : Int), .int .i64 (rh : Int)]] W fun e w' => ∃ g, e = .returned (.tuple #[.agg #[.int .i64 rx, .int .i64 ry, .int .i64 (rw_ : Int), .int .i64 (rh : Int), .slice (some ⟨g, 0, none⟩) (4 * (rw_ * rh)) (4 * (rw_ * rh))], .int .i64 0]) ∧
      W.heap.size ≤ g ∧ Row w' g (4 * (rw_ * rh)) (madeL (cutP xs rw_ w i1 j1) (4 * (rw_ * rh))) ∧ Below W.heap.size W w' := by
  obtain ⟨a1, a2, a3, a4, a5, a6, a7, a8, a9⟩ := checkRegion_zero hf
  obtain ⟨b1, b2, b3, b4, b5, b6, b7, b8, b9⟩ := checkRegion_zero hr
  have hwh : w * h ≤ 65536 := Nat.le_trans (Nat.mul_le_mul (show w ≤ 256 by omega) (show h ≤ 256 by omega)) (by omega)
  have hn : n ≤ maxLen := by unfold maxLen; omega
  have hi : inB rx ry rw_ rh x y w h = true := by unfold inB; simp only [Bool.and_eq_true, decide_eq_true_eq]; omega
  have hmeet : Meet rx ry rw_ rh x y w h 0 0 i1 j1 rw_ rh := ⟨by omega, by omega, by omega, by omega, by omega, by omega, by omega, by omega, .inl rfl, .inl rfl, .inl (by omega), .inl (by omega)⟩
  have hcom : commonOf rx ry rw_ rh x y w h = ((rx + (0 : Nat), ry + (0 : Nat), (rw_ : Int), (rh : Int)), true) := by
    have m1 := imax_spec rx x
    have m2 := imax_spec ry y
    have m3 := imin_spec (rx + rw_) (x + w)
    have m4 := imin_spec (ry + rh) (y + h)
    unfold commonOf
    rw [if_neg (by omega)]
    congr
    all_goals omega
  obtain ⟨N, hNN, hNw, hN1, hN2⟩ := mul4 (rw_ : Int) (rh : Int) b1 b3 b2 b4
  have hNe : 4 * (rw_ * rh) = N := by rw [Int.mul_assoc] at hNN; exact_mod_cast hNN
  rw [hNe]
  have hN6 : N ≤ 1000000 := Nat.le_trans hN2 (by decide)
  have hmk := fun w => run_makeF w N hN6
  have hrd0 := hrd
  have HH := Lib.hid (And.intro hN (And.intro hxs (And.intro hNe (And.intro hmeet hcom))))
  clear hN hxs hNe hNN hmeet hcom ex ey a5 b5
  go_enter Try.func10, Try.ntmps10
  go_wp2_with fail
  refine nm_call ?_
  intro wb hwb
  have x0 : Bx wb (W.heap.size) 26 #[.int .i64 x, .int .i64 y, .int .i64 (w : Int), .int .i64 (h : Int), .slice (some ⟨b, o, none⟩) n c] := by rw [hwb]; exact Bx.alloc (Bx.alloc (Bx.new _ _ _) _) _
  have x1 : Bx wb (W.heap.size + 1) 23 #[.int .i64 rx, .int .i64 ry, .int .i64 (rw_ : Int), .int .i64 (rh : Int)] := by rw [hwb]; exact Bx.alloc (Bx.at _ (by simp)) _
  have x2 : Bx wb (W.heap.size + 1 + 1) 26 #[.int .i64 0, .int .i64 0, .int .i64 0, .int .i64 0, .slice none 0 0] := by rw [hwb]; exact Bx.at _ (by simp)
  have B1 : Below W.heap.size W wb := by rw [hwb]; exact bnew (bnew (bnew (Below.refl _ W)))
  clear hwb
  refine (frame_Check _ _ _ _ _ _ _ _ hn).mono ?_
  rw [hc]
  rintro e wa ⟨rfl, hb⟩
  replace x0 := x0.keep hb
  replace x1 := x1.keep hb
  replace x2 := x2.keep hb
  have B2 := bcall B1 hb
  replace hrd := hrd.keep B2
  clear hb hc B1 hf
  obtain ⟨q0, f0, l0⟩ := x0.all
  obtain ⟨q1, f1, l1⟩ := x1.all
  obtain ⟨q2, f2, l2⟩ := x2.all
  go_wp2_with fail
  refine (frame_CheckRegion _ _ _ _ _).mono ?_
  rw [hr]
  rintro e wc ⟨rfl, hb⟩
  clear q0 f0 l0 q1 f1 l1 q2 f2 l2
  replace x0 := x0.keep hb
  replace x1 := x1.keep hb
  replace x2 := x2.keep hb
  have B3 := bcall B2 hb
  replace hrd := hrd.keep hb
  clear hb hr B2
  obtain ⟨q0, f0, l0⟩ := x0.all
  obtain ⟨q1, f1, l1⟩ := x1.all
  obtain ⟨q2, f2, l2⟩ := x2.all
  go_wp2_with fail
  refine (frame_Inside_is _ _ _ _ _ _ _ _ _ hi _ (by omega) (by omega) (by omega) (by omega) (by omega) (by omega) (by omega) (by omega) (by omega) (by omega) (by omega) (by omega) (by omega) (by omega) (by omega) (by omega)).mono ?_
  rintro e wd ⟨rfl, hb⟩
  clear q0 f0 l0 q1 f1 l1 q2 f2 l2
  replace x0 := x0.keep hb
  replace x1 := x1.keep hb
  replace x2 := x2.keep hb
  have B4 := bcall B3 hb
  replace hrd := hrd.keep hb
  have hsz : W.heap.size + 1 + 1 < wd.heap.size := x2.lt
  clear hb hi B3
  obtain ⟨q0, f0, l0⟩ := x0.all
  obtain ⟨q1, f1, l1⟩ := x1.all
  obtain ⟨q2, f2, l2⟩ := x2.all
  go_wp2_with fail
  go_region
  all_goals go_wp2_with fail
  all_goals
    clear hNw hmk
    refine nm_call ?_
    intro wb hwb
    have hb : Below wd.heap.size wd wb := by rw [hwb]; exact (bnew (bnew (Below.refl _ _))).drew
    have hs1 : wd.heap.size + 1 ≠ wd.heap.size := Nat.succ_ne_self _
    have hs2 : W.heap.size + 1 + 1 < wd.heap.size + 1 := Nat.lt_succ_of_lt hsz
  all_goals first
    | (have x5 : Bx wb (wd.heap.size + 1) 26 #[.int .i64 rx, .int .i64 ry, .int .i64 (rw_ : Int), .int .i64 (rh : Int), .slice (some ⟨wd.heap.size, 0, none⟩) N N] := by rw [hwb]; exact Bx.drewN (Bx.at _ (by simp)) 1
       have row : Row wb wd.heap.size N (List.replicate N 0) := by rw [hwb]; exact Row.drewN (Row.alloc (row_at _ _ _ (by simp)) _) 1
       have hne : wd.heap.size + 1 ≠ wd.heap.size ∧ W.heap.size + 1 + 1 < wd.heap.size ∧ W.heap.size + 1 + 1 < wd.heap.size + 1 := ⟨hs1, hsz, hs2⟩
       generalize hpg : wd.heap.size = pg at row x5 hne
       generalize hp5' : pg + 1 = p5 at x5 hne)
    | (have x5 : Bx wb wd.heap.size 26 #[.int .i64 rx, .int .i64 ry, .int .i64 (rw_ : Int), .int .i64 (rh : Int), .slice (some ⟨wd.heap.size + 1, 0, none⟩) N N] := by rw [hwb]; exact Bx.drewN (Bx.alloc (Bx.at _ (by simp)) _) 1
       have row : Row wb (wd.heap.size + 1) N (List.replicate N 0) := by rw [hwb]; exact Row.drewN (row_at _ _ _ (by simp)) 1
       have hne : wd.heap.size ≠ wd.heap.size + 1 ∧ W.heap.size + 1 + 1 < wd.heap.size + 1 ∧ W.heap.size + 1 + 1 < wd.heap.size := ⟨hs1.symm, hs2, hsz⟩
       generalize hp5' : wd.heap.size = p5 at row x5 hne
       generalize hpg : p5 + 1 = pg at row x5 hne)
  all_goals
    obtain ⟨hne1, hne2, hne3⟩ := hne
    clear hwb hpg hp5' hs1 hs2
    have l2 : W.heap.size + 1 + 1 < wb.heap.size := (x2.keep hb).lt
    have hbb : b ≠ pg := by have := hrd0.lt; omega
    clear q0 f0 l0 q1 f1 l1 q2 f2
    replace x2 := x2.keep hb
    have B5 := bcall B4 hb
    replace hrd := hrd.keep hb
    clear hb x0 x1 B4 hsz
    refine (frame_copyInto rx ry x y rw_ rh w h 0 0 i1 j1 rw_ rh pg b o N N n c (List.replicate N 0) xs wb (by omega) (by omega) (by omega) (by omega) (by omega) (by omega) (by omega) (by omega) (by omega) (by omega) (by omega) (by omega) HH.out.2.2.2.1 HH.out.2.2.2.2 HH.out.2.2.1.symm HH.out.1 (List.length_replicate ..) HH.out.2.1 row hrd hbb).mono ?_
    rintro e we ⟨rfl, row2, off⟩
    have l5 := x5.lt
    replace x2 := off.bx x2 l2 (by omega)
    replace x5 := off.bx x5 l5 (by omega)
    have B6 : Below W.heap.size W we := B5.trans (off.below (by omega) B5.size)
    rw [cut_made _ _ _ _ _ _ _ (by omega), HH.out.2.2.1] at row2
    clear off row hrd l5 B5
    obtain ⟨q2, f2, l3⟩ := x2.all
    obtain ⟨q5, f5, l5⟩ := x5.all
    go_wp2_with fail
    refine bodyPost_ret (v := .tuple #[.agg #[.int .i64 rx, .int .i64 ry, .int .i64 (rw_ : Int), .int .i64 (rh : Int), .slice (some ⟨pg, 0, none⟩) N N], .int .i64 0]) (by simp [results, Try.results10, go_sem, q2]) rfl ⟨pg, rfl, by omega, ?_, ?_⟩
    · have hgn : W.heap.size + 1 + 1 ≠ pg := by omega
      exact Row.other' hgn (Row.other' hgn (Row.other' hgn (Row.other' hgn (Row.other' hgn row2))))
    · exact bput (by omega) (bput (by omega) (bput (by omega) (bput (by omega) (bput (by omega) B6))))

end Go.Proofs.Ytccbhghpghijiaa
