/- frame.Paste. -/
import Derived.Test.YtoffnmpnhddaiaaCutG
namespace Go.Proofs.Ytoffnmpnhddaiaa
open Go.RowKit

set_option maxRecDepth 100000 in
set_option maxHeartbeats 2000000 in
theorem frame_Paste_place (x y x2 y2 : Int) (w h w2 h2 b o n c b2 o2 n2 c2 : Nat) (xs ys : List Nat) (W : World) (hc1 : checkFrame x y w h n = 0) (hf1 : checkRegion x y w h = 0) (hc2 : checkFrame x2 y2 w2 h2 n2 = 0) (hf2 : checkRegion x2 y2 w2 h2 = 0)
    (hN : n = 4 * (w * h)) (hxs : xs.length = n) (hrd : Rd W b o xs) (hN2 : n2 = 4 * (w2 * h2)) (hys : ys.length = n2) (hrd2 : Rd W b2 o2 ys) (hcom : commonOf x y w h x2 y2 w2 h2 = ((0, 0, 0, 0), false)) :
    Calls Try.prog 69 #[.agg #[.int .i64 x, .int .i64 y, .int .i64 (w : Int), .int .i64 (h : Int), .slice (some ⟨b, o, none⟩) n c], .agg #[.int .i64 x2, .int .i64 y2, .int .i64 (w2 : Int), .int .i64 (h2 : Int), .slice (some ⟨b2, o2, none⟩) n2 c2]] W fun e w' => e = .returned (.tuple #[.agg #[.int .i64 0, .int .i64 0, .int .i64 0, .int .i64 0, .slice none 0 0], .int .i64 5]) ∧ Below W.heap.size W w' := by
  obtain ⟨a1, a2, a3, a4, a5, a6, a7, a8, a9⟩ := checkRegion_zero hf1
  obtain ⟨b1, b2', b3, b4, b5, b6, b7, b8, b9⟩ := checkRegion_zero hf2
  have hwh : w * h ≤ 65536 := Nat.le_trans (Nat.mul_le_mul (show w ≤ 256 by omega) (show h ≤ 256 by omega)) (by omega)
  have hwh2 : w2 * h2 ≤ 65536 := Nat.le_trans (Nat.mul_le_mul (show w2 ≤ 256 by omega) (show h2 ≤ 256 by omega)) (by omega)
  have hn : n ≤ maxLen := by unfold maxLen; omega
  have hn2 : n2 ≤ maxLen := by unfold maxLen; omega
  have hrd0 := hrd.lt
  have hrd20 := hrd2.lt
  have HH := Lib.hid (And.intro hN (And.intro hxs (And.intro hN2 (And.intro hys (And.intro hc1 hc2)))))
  have HC := Lib.hid hcom
  clear hN hxs hN2 hys hc1 hc2 a5 b5 hcom
  go_enter Try.func69, Try.ntmps69
  go_wp2_with fail
  refine name_world ?_
  intro wb hwb
  have k0 : Bx wb (W.heap.size) 26 #[.int .i64 x, .int .i64 y, .int .i64 (w : Int), .int .i64 (h : Int), .slice (some ⟨b, o, none⟩) n c] := by rw [hwb]; exact Bx.alloc (Bx.alloc (Bx.alloc (Bx.new _ _ _) _) _) _
  have k1 : Bx wb (W.heap.size + 1) 26 #[.int .i64 x2, .int .i64 y2, .int .i64 (w2 : Int), .int .i64 (h2 : Int), .slice (some ⟨b2, o2, none⟩) n2 c2] := by rw [hwb]; exact Bx.alloc (Bx.alloc (Bx.at _ (by simp)) _) _
  have k2 : Bx wb (W.heap.size + 1 + 1) 26 #[.int .i64 0, .int .i64 0, .int .i64 0, .int .i64 0, .slice none 0 0] := by rw [hwb]; exact Bx.alloc (Bx.at _ (by simp)) _
  obtain ⟨Tk3, k3⟩ : ∃ T, Bx wb (W.heap.size + 1 + 1 + 1) T #[.int .i64 x, .int .i64 y, .int .i64 (w : Int), .int .i64 (h : Int), .slice (some ⟨b, o, none⟩) n c, .int .i64 x2, .int .i64 y2, .int .i64 (w2 : Int), .int .i64 (h2 : Int), .slice (some ⟨b2, o2, none⟩) n2 c2] := by rw [hwb]; exact ⟨_, Bx.at _ (by simp)⟩
  have B1 : Below W.heap.size W wb := by rw [hwb]; exact bnew (bnew (bnew (bnew (Below.refl _ W))))
  clear hwb
  replace hrd := hrd.keep B1
  replace hrd2 := hrd2.keep B1
  obtain ⟨q3, f3, l3⟩ := k3.all
  go_wp2_with fail
  refine wp_loop_rounds 3 ?_
  rw [rounds_succ]
  go_wp2_with (go_at_call 87; refine (frame_Check _ _ _ _ _ _ _ _ hn).mono ?_; rw [HH.out.2.2.2.2.1]; rintro e wa ⟨rfl, hb1⟩)
  have hb : Below wb.heap.size wb wa := bcall (bnew (Below.refl _ _)) hb1
  clear q3 f3 l3
  replace k0 := k0.keep hb
  replace k1 := k1.keep hb
  replace k2 := k2.keep hb
  replace k3 := k3.keep hb
  replace hrd := hrd.keep hb
  replace hrd2 := hrd2.keep hb
  have B2 := bcall B1 hb
  clear hb hb1 B1
  obtain ⟨q3, f3, l3⟩ := k3.all
  rw [rounds_succ]
  go_wp2_with (go_at_call 87; refine (frame_Check _ _ _ _ _ _ _ _ hn2).mono ?_; rw [HH.out.2.2.2.2.2]; rintro e wc ⟨rfl, hb1⟩)
  have hb : Below wa.heap.size wa wc := bcall (bnew (Below.refl _ _)) hb1
  clear q3 f3 l3
  replace k0 := k0.keep hb
  replace k1 := k1.keep hb
  replace k2 := k2.keep hb
  replace hrd := hrd.keep hb
  replace hrd2 := hrd2.keep hb
  have B3 := bcall B2 hb
  clear hb hb1 B2 k3
  obtain ⟨q0, f0, l0⟩ := k0.all
  obtain ⟨q1, f1, l1⟩ := k1.all
  obtain ⟨q2, f2, l2⟩ := k2.all
  rw [rounds_succ]
  go_wp2_with fail
  refine (frame_Common_at _ _ _ _ _ _ _ _ _ _ _ _ _ HC.out _ (by omega) (by omega) (by omega) (by omega) (by omega) (by omega) (by omega) (by omega) (by omega) (by omega) (by omega) (by omega) (by omega) (by omega) (by omega) (by omega)).mono ?_
  rintro e wd ⟨rfl, hb⟩
  clear q0 f0 l0 q1 f1 l1 q2 f2 l2
  replace k0 := k0.keep hb
  replace k1 := k1.keep hb
  replace k2 := k2.keep hb
  replace hrd := hrd.keep hb
  replace hrd2 := hrd2.keep hb
  have B4 := bcall B3 hb
  clear hb B3
  obtain ⟨q0, f0, l0⟩ := k0.all
  obtain ⟨q1, f1, l1⟩ := k1.all
  obtain ⟨q2, f2, l2⟩ := k2.all
  go_upto_region 10 with fail
  refine name_world ?_
  intro wn hwn
  have hb : Below wd.heap.size wd wn := by rw [hwn]; exact bnew (Below.refl _ _)
  clear hwn q0 f0 l0 q1 f1 l1 q2 f2 l2
  replace k2 := k2.keep hb
  have B5 := bcall B4 hb
  clear hb B4
  obtain ⟨q2, f2, l2⟩ := k2.all
  go_wp2_with fail
  refine bodyPost_ret (v := .tuple #[.agg #[.int .i64 0, .int .i64 0, .int .i64 0, .int .i64 0, .slice none 0 0], .int .i64 5]) (by simp [results, Try.results69, go_sem, q2]) rfl ⟨rfl, ?_⟩
  exact bput (by omega) (bput (by omega) (bput (by omega) (bput (by omega) (bput (by omega) B5))))

set_option maxRecDepth 100000 in
set_option maxHeartbeats 2000000 in
theorem frame_Paste_ok (x y x2 y2 : Int) (w h w2 h2 b o n c b2 o2 n2 c2 : Nat) (xs ys : List Nat) (W : World) (hc1 : checkFrame x y w h n = 0) (hf1 : checkRegion x y w h = 0) (hc2 : checkFrame x2 y2 w2 h2 n2 = 0) (hf2 : checkRegion x2 y2 w2 h2 = 0)
    (hN : n = 4 * (w * h)) (hxs : xs.length = n) (hrd : Rd W b o xs) (hN2 : n2 = 4 * (w2 * h2)) (hys : ys.length = n2) (hrd2 : Rd W b2 o2 ys) (i0 j0 i1 j1 cw ch : Nat) (hm : Meet x y w h x2 y2 w2 h2 i0 j0 i1 j1 cw ch) (hcom : commonOf x y w h x2 y2 w2 h2 = ((x + i0, y + j0, (cw : Int), (ch : Int)), true)) :
    Calls Try.prog 69 #[.agg #[.int .i64 x, .int .i64 y, .int .i64 (w : Int), .int .i64 (h : Int), .slice (some ⟨b, o, none⟩) n c], .agg #[.int .i64 x2, .int .i64 y2, .int .i64 (w2 : Int), .int .i64 (h2 : Int), .slice (some ⟨b2, o2, none⟩) n2 c2]] W fun e w' => ∃ g, e = .returned (.tuple #[.agg #[.int .i64 x, .int .i64 y, .int .i64 (w : Int), .int .i64 (h : Int), .slice (some ⟨g, 0, none⟩) n n], .int .i64 0]) ∧
      W.heap.size ≤ g ∧ Row w' g n (madeL (pasteP xs ys w w2 i0 j0 i1 j1 cw ch) n) ∧ Below W.heap.size W w' := by
  have Hm := Lib.hid hm
  have hMi : ((w * h : Nat) : Int) = (w : Int) * (h : Int) := by push_cast; rfl
  have HMi := Lib.hid hMi
  clear hm hMi
  obtain ⟨a1, a2, a3, a4, a5, a6, a7, a8, a9⟩ := checkRegion_zero hf1
  obtain ⟨b1, b2', b3, b4, b5, b6, b7, b8, b9⟩ := checkRegion_zero hf2
  have hwh : w * h ≤ 65536 := Nat.le_trans (Nat.mul_le_mul (show w ≤ 256 by omega) (show h ≤ 256 by omega)) (by omega)
  have hwh2 : w2 * h2 ≤ 65536 := Nat.le_trans (Nat.mul_le_mul (show w2 ≤ 256 by omega) (show h2 ≤ 256 by omega)) (by omega)
  have hn : n ≤ maxLen := by unfold maxLen; omega
  have hn2 : n2 ≤ maxLen := by unfold maxLen; omega
  have hrd0 := hrd.lt
  have hrd20 := hrd2.lt
  have HH := Lib.hid (And.intro hN (And.intro hxs (And.intro hN2 (And.intro hys (And.intro hc1 hc2)))))
  have HC := Lib.hid hcom
  clear hN hxs hN2 hys hc1 hc2 a5 b5 hcom
  go_enter Try.func69, Try.ntmps69
  go_wp2_with fail
  refine name_world ?_
  intro wb hwb
  have k0 : Bx wb (W.heap.size) 26 #[.int .i64 x, .int .i64 y, .int .i64 (w : Int), .int .i64 (h : Int), .slice (some ⟨b, o, none⟩) n c] := by rw [hwb]; exact Bx.alloc (Bx.alloc (Bx.alloc (Bx.new _ _ _) _) _) _
  have k1 : Bx wb (W.heap.size + 1) 26 #[.int .i64 x2, .int .i64 y2, .int .i64 (w2 : Int), .int .i64 (h2 : Int), .slice (some ⟨b2, o2, none⟩) n2 c2] := by rw [hwb]; exact Bx.alloc (Bx.alloc (Bx.at _ (by simp)) _) _
  have k2 : Bx wb (W.heap.size + 1 + 1) 26 #[.int .i64 0, .int .i64 0, .int .i64 0, .int .i64 0, .slice none 0 0] := by rw [hwb]; exact Bx.alloc (Bx.at _ (by simp)) _
  obtain ⟨Tk3, k3⟩ : ∃ T, Bx wb (W.heap.size + 1 + 1 + 1) T #[.int .i64 x, .int .i64 y, .int .i64 (w : Int), .int .i64 (h : Int), .slice (some ⟨b, o, none⟩) n c, .int .i64 x2, .int .i64 y2, .int .i64 (w2 : Int), .int .i64 (h2 : Int), .slice (some ⟨b2, o2, none⟩) n2 c2] := by rw [hwb]; exact ⟨_, Bx.at _ (by simp)⟩
  have B1 : Below W.heap.size W wb := by rw [hwb]; exact bnew (bnew (bnew (bnew (Below.refl _ W))))
  clear hwb
  replace hrd := hrd.keep B1
  replace hrd2 := hrd2.keep B1
  obtain ⟨q3, f3, l3⟩ := k3.all
  go_wp2_with fail
  refine wp_loop_rounds 3 ?_
  rw [rounds_succ]
  go_wp2_with (go_at_call 87; refine (frame_Check _ _ _ _ _ _ _ _ hn).mono ?_; rw [HH.out.2.2.2.2.1]; rintro e wa ⟨rfl, hb1⟩)
  have hb : Below wb.heap.size wb wa := bcall (bnew (Below.refl _ _)) hb1
  clear q3 f3 l3
  replace k0 := k0.keep hb
  replace k1 := k1.keep hb
  replace k2 := k2.keep hb
  replace k3 := k3.keep hb
  replace hrd := hrd.keep hb
  replace hrd2 := hrd2.keep hb
  have B2 := bcall B1 hb
  clear hb hb1 B1
  obtain ⟨q3, f3, l3⟩ := k3.all
  rw [rounds_succ]
  go_wp2_with (go_at_call 87; refine (frame_Check _ _ _ _ _ _ _ _ hn2).mono ?_; rw [HH.out.2.2.2.2.2]; rintro e wc ⟨rfl, hb1⟩)
  have hb : Below wa.heap.size wa wc := bcall (bnew (Below.refl _ _)) hb1
  clear q3 f3 l3
  replace k0 := k0.keep hb
  replace k1 := k1.keep hb
  replace k2 := k2.keep hb
  replace hrd := hrd.keep hb
  replace hrd2 := hrd2.keep hb
  have B3 := bcall B2 hb
  clear hb hb1 B2 k3
  obtain ⟨q0, f0, l0⟩ := k0.all
  obtain ⟨q1, f1, l1⟩ := k1.all
  obtain ⟨q2, f2, l2⟩ := k2.all
  rw [rounds_succ]
  go_wp2_with fail
  refine (frame_Common_at _ _ _ _ _ _ _ _ _ _ _ _ _ HC.out _ (by omega) (by omega) (by omega) (by omega) (by omega) (by omega) (by omega) (by omega) (by omega) (by omega) (by omega) (by omega) (by omega) (by omega) (by omega) (by omega)).mono ?_
  rintro e wd ⟨rfl, hb⟩
  clear q0 f0 l0 q1 f1 l1 q2 f2 l2
  replace k0 := k0.keep hb
  replace k1 := k1.keep hb
  replace k2 := k2.keep hb
  replace hrd := hrd.keep hb
  replace hrd2 := hrd2.keep hb
  have B4 := bcall B3 hb
  clear hb B3
  obtain ⟨q0, f0, l0⟩ := k0.all
  obtain ⟨q1, f1, l1⟩ := k1.all
  obtain ⟨q2, f2, l2⟩ := k2.all
  go_wp2_with fail
  refine nm_call ?_
  intro we hwe
  have hb : Below wd.heap.size wd we := by rw [hwe]; exact bnew (Below.refl _ _)
  clear hwe
  clear q0 f0 l0 q1 f1 l1 q2 f2 l2
  replace k0 := k0.keep hb
  replace k1 := k1.keep hb
  replace k2 := k2.keep hb
  replace hrd := hrd.keep hb
  replace hrd2 := hrd2.keep hb
  have B5 := bcall B4 hb
  clear hb B4
  refine (frame_Clean_ok x y w h b o n c (w * h) xs _ HH.out.2.2.2.2.1 HMi.out hwh HH.out.1 (by omega) (by omega) HH.out.2.1 hrd).mono ?_
  rintro e wf ⟨gc, rfl, hgc, row, hb⟩
  have lz := k2.lt
  have hb2c : b2 < gc := Nat.lt_of_lt_of_le hrd2.lt hgc
  replace k0 := k0.keep hb
  replace k1 := k1.keep hb
  replace k2 := k2.keep hb
  replace hrd2 := hrd2.keep hb
  have B6 := bcall B5 hb
  have hgc2 : W.heap.size + 1 + 1 < gc := by omega
  clear hb B5 hrd lz hgc
  obtain ⟨q0, f0, l0⟩ := k0.all
  obtain ⟨q1, f1, l1⟩ := k1.all
  obtain ⟨q2, f2, l2⟩ := k2.all
  go_wp2_with fail
  refine nm_call ?_
  intro wg hwg
  have xo : Bx wg wf.heap.size 26 #[.int .i64 x, .int .i64 y, .int .i64 (w : Int), .int .i64 (h : Int), .slice (some ⟨gc, 0, none⟩) n n] := by rw [hwg]; exact Bx.new _ _ _
  have hb : Below wf.heap.size wf wg := by rw [hwg]; exact bnew (Below.refl _ _)
  clear hwg
  clear q0 f0 l0 q1 f1 l1 q2 f2 l2
  have hpo : gc < wf.heap.size := row.lt
  replace k2 := k2.keep hb
  replace hrd2 := hrd2.keep hb
  replace row := row.keep hb
  have B7 := bcall B6 hb
  clear hb B6 k0 k1
  generalize wf.heap.size = po at *
  refine (frame_copyInto x y x2 y2 w h w2 h2 i0 j0 i1 j1 cw ch gc b2 o2 n n n2 c2 _ ys wg (by omega) (by omega) (by omega) (by omega) (by omega) (by omega) (by omega) (by omega) (by omega) (by omega) (by omega) (by omega) Hm.out HC.out HH.out.1 HH.out.2.2.1 row.len HH.out.2.2.2.1 row hrd2 (by omega)).mono ?_
  rintro e wh ⟨rfl, row2, off⟩
  have l2 := k2.lt
  have l5 := xo.lt
  replace k2 := off.bx k2 l2 (by omega)
  replace xo := off.bx xo l5 (by omega)
  have B8 : Below W.heap.size W wh := B7.trans (off.below (by omega) B7.size)
  rw [paste_made _ xs ys _ _ _ _ _ _ _ _ _ (fun k hk => by
    rw [← HH.out.1] at hk
    simp [hk]), ← HH.out.1] at row2
  clear off row hrd2 l5 B7 l2
  obtain ⟨q2, f2, l2⟩ := k2.all
  obtain ⟨q5, f5, l5⟩ := xo.all
  go_wp2_with fail
  refine bodyPost_ret (v := .tuple #[.agg #[.int .i64 x, .int .i64 y, .int .i64 (w : Int), .int .i64 (h : Int), .slice (some ⟨gc, 0, none⟩) n n], .int .i64 0]) (by simp [results, Try.results69, go_sem, q2]) rfl ⟨gc, rfl, by omega, ?_, ?_⟩
  · have hgn : W.heap.size + 1 + 1 ≠ gc := by omega
    exact Row.other' hgn (Row.other' hgn (Row.other' hgn (Row.other' hgn (Row.other' hgn row2))))
  · exact bput (by omega) (bput (by omega) (bput (by omega) (bput (by omega) (bput (by omega) B8))))

end Go.Proofs.Ytoffnmpnhddaiaa
