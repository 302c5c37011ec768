/- frame.Fill, Clean, Put, whole. -/
import Derived.Test.YtoffnmpnhddaiaaCutB
namespace Go.Proofs.Ytoffnmpnhddaiaa
open Go.RowKit

set_option maxRecDepth 100000 in
set_option maxHeartbeats 2000000 in
theorem frame_Fill_bad (x y w h k : Int) (F : Nat → Nat) (W : World) (hc : checkRegion x y w h = k) (hk : k ≠ 0) :
    Calls Try.prog 59 #[.agg #[.int .i64 x, .int .i64 y, .int .i64 w, .int .i64 h], .agg #[.float .f32 (F 0), .float .f32 (F 1), .float .f32 (F 2), .float .f32 (F 3)]] W fun e w' => e = .returned (.tuple #[.agg #[.int .i64 0, .int .i64 0, .int .i64 0, .int .i64 0, .slice none 0 0], .int .i64 k]) ∧ Below W.heap.size W w' := by
  go_enter Try.func59, Try.ntmps59
  go_wp2_with fail
  refine nm_call ?_
  intro wb hwb
  have x0 : Bx wb (W.heap.size) 23 #[.int .i64 x, .int .i64 y, .int .i64 w, .int .i64 h] := by rw [hwb]; exact Bx.alloc (Bx.alloc (Bx.new _ _ _) _) _
  have x1 : Bx wb (W.heap.size + 1) 35 #[.float .f32 (F 0), .float .f32 (F 1), .float .f32 (F 2), .float .f32 (F 3)] := by rw [hwb]; exact Bx.alloc (Bx.at _ (by simp)) _
  have x2 : Bx wb (W.heap.size + 1 + 1) 26 #[.int .i64 0, .int .i64 0, .int .i64 0, .int .i64 0, .slice none 0 0] := by rw [hwb]; exact Bx.at _ (by simp)
  have B1 : Below W.heap.size W wb := by rw [hwb]; exact bnew (bnew (bnew (Below.refl _ W)))
  clear hwb
  refine (frame_CheckRegion _ _ _ _ _).mono ?_
  rw [hc]
  rintro e w1 ⟨rfl, hb⟩
  replace x0 := x0.keep hb
  replace x1 := x1.keep hb
  replace x2 := x2.keep hb
  have B2 := bcall B1 hb
  clear hb hc B1
  obtain ⟨q0, f0, l0⟩ := x0.all
  obtain ⟨q1, f1, l1⟩ := x1.all
  obtain ⟨q2, f2, l2⟩ := x2.all
  go_wp2_with fail
  refine bodyPost_ret (v := .tuple #[.agg #[.int .i64 0, .int .i64 0, .int .i64 0, .int .i64 0, .slice none 0 0], .int .i64 k]) (by simp [results, Try.results59, go_sem, q2]) rfl ⟨rfl, ?_⟩
  exact bput (by omega) (bput (by omega) (bput (by omega) (bput (by omega) (bput (by omega) B2))))

set_option maxRecDepth 100000 in
set_option maxHeartbeats 2000000 in
theorem frame_Fill_ok (x y w h : Int) (M : Nat) (F : Nat → Nat) (W : World) (hc : checkRegion x y w h = 0) (hM : (M : Int) = w * h) :
    Calls Try.prog 59 #[.agg #[.int .i64 x, .int .i64 y, .int .i64 w, .int .i64 h], .agg #[.float .f32 (F 0), .float .f32 (F 1), .float .f32 (F 2), .float .f32 (F 3)]] W fun e w' => ∃ g, e = .returned (.tuple #[.agg #[.int .i64 x, .int .i64 y, .int .i64 w, .int .i64 h, .slice (some ⟨g, 0, none⟩) (4 * M) (4 * M)], .int .i64 0]) ∧ W.heap.size ≤ g ∧ Row w' g (4 * M) ((List.range (4 * M)).map fun k => canon (F (k % 4))) ∧ Below W.heap.size W w' := by
  obtain ⟨a1, a2, a3, a4, a5, _⟩ := checkRegion_zero hc
  have HM := Lib.hid hM
  have hM2 : M ≤ 65536 := by omega
  clear hM a5
  go_enter Try.func59, Try.ntmps59
  go_wp2_with fail
  refine nm_call ?_
  intro wb hwb
  have x0 : Bx wb (W.heap.size) 23 #[.int .i64 x, .int .i64 y, .int .i64 w, .int .i64 h] := by rw [hwb]; exact Bx.alloc (Bx.alloc (Bx.new _ _ _) _) _
  have x1 : Bx wb (W.heap.size + 1) 35 #[.float .f32 (F 0), .float .f32 (F 1), .float .f32 (F 2), .float .f32 (F 3)] := by rw [hwb]; exact Bx.alloc (Bx.at _ (by simp)) _
  have x2 : Bx wb (W.heap.size + 1 + 1) 26 #[.int .i64 0, .int .i64 0, .int .i64 0, .int .i64 0, .slice none 0 0] := by rw [hwb]; exact Bx.at _ (by simp)
  have B1 : Below W.heap.size W wb := by rw [hwb]; exact bnew (bnew (bnew (Below.refl _ W)))
  clear hwb
  refine (frame_CheckRegion _ _ _ _ _).mono ?_
  rw [hc]
  rintro e w1 ⟨rfl, hb⟩
  replace x0 := x0.keep hb
  replace x1 := x1.keep hb
  replace x2 := x2.keep hb
  have B2 := bcall B1 hb
  clear hb hc B1
  obtain ⟨q0, f0, l0⟩ := x0.all
  obtain ⟨q1, f1, l1⟩ := x1.all
  obtain ⟨q2, f2, l2⟩ := x2.all
  go_wp2_with fail
  refine (frame_each x y w h M (4 * M) _ _ _ _ HM.out hM2 rfl a1 a2 (fill_gives _ _ _ F _ x1)).mono ?_
  rintro e w2 ⟨g, rfl, hg, hrow, hb⟩
  have hgn : W.heap.size + 1 + 1 ≠ g := by omega
  have hge : W.heap.size ≤ g := by omega
  clear q0 f0 l0 q1 f1 l1 q2 f2 l2
  replace x2 := x2.keep hb
  have B3 := bcall B2 hb
  clear hb B2 hg x0 x1
  obtain ⟨q0, f0, l0⟩ := x2.all
  go_wp2_with fail
  refine bodyPost_ret (v := .tuple #[.agg #[.int .i64 x, .int .i64 y, .int .i64 w, .int .i64 h, .slice (some ⟨g, 0, none⟩) (4 * M) (4 * M)], .int .i64 0]) (by simp [results, Try.results59, go_sem, q0]) rfl ⟨g, rfl, hge, ?_, ?_⟩
  · exact Row.other' hgn (Row.other' hgn (Row.other' hgn (Row.other' hgn (Row.other' hgn hrow))))
  · exact bput (by omega) (bput (by omega) (bput (by omega) (bput (by omega) (bput (by omega) B3))))

set_option maxRecDepth 100000 in
set_option maxHeartbeats 2000000 in
theorem frame_Clean_bad (x y w h k : Int) (a : Option Addr) (n c : Nat) (W : World) (hn : n ≤ maxLen) (hc : checkFrame x y w h n = k) (hk : k ≠ 0) :
    Calls Try.prog 137 #[.agg #[.int .i64 x, .int .i64 y, .int .i64 w, .int .i64 h, .slice a n c]] W fun e w' => e = .returned (.tuple #[.agg #[.int .i64 0, .int .i64 0, .int .i64 0, .int .i64 0, .slice none 0 0], .int .i64 k]) ∧ Below W.heap.size W w' := by
  go_enter Try.func137, Try.ntmps137
  go_wp2_with fail
  refine nm_call ?_
  intro wb hwb
  have x0 : Bx wb (W.heap.size) 26 #[.int .i64 x, .int .i64 y, .int .i64 w, .int .i64 h, .slice a n c] := by rw [hwb]; exact Bx.alloc (Bx.new _ _ _) _
  have x1 : Bx wb (W.heap.size + 1) 26 #[.int .i64 0, .int .i64 0, .int .i64 0, .int .i64 0, .slice none 0 0] := by rw [hwb]; exact Bx.at _ (by simp)
  have B1 : Below W.heap.size W wb := by rw [hwb]; exact bnew (bnew (Below.refl _ W))
  clear hwb
  refine (frame_Check _ _ _ _ _ _ _ _ hn).mono ?_
  rw [hc]
  rintro e w1 ⟨rfl, hb⟩
  replace x0 := x0.keep hb
  replace x1 := x1.keep hb
  have B2 := bcall B1 hb
  clear hb hc B1
  obtain ⟨q0, f0, l0⟩ := x0.all
  obtain ⟨q1, f1, l1⟩ := x1.all
  go_wp2_with fail
  refine bodyPost_ret (v := .tuple #[.agg #[.int .i64 0, .int .i64 0, .int .i64 0, .int .i64 0, .slice none 0 0], .int .i64 k]) (by simp [results, Try.results137, go_sem, q1]) rfl ⟨rfl, ?_⟩
  exact bput (by omega) (bput (by omega) (bput (by omega) (bput (by omega) (bput (by omega) B2))))

set_option maxRecDepth 100000 in
set_option maxHeartbeats 2000000 in
theorem frame_Clean_ok (x y w h : Int) (b o n c M : Nat) (xs : List Nat) (W : World) (hc : checkFrame x y w h n = 0) (hM : (M : Int) = w * h) (hM2 : M ≤ 65536) (hN : n = 4 * M) (hw1 : 1 ≤ w) (hw2 : w ≤ 256) (hxs : xs.length = n) (hrd : Rd W b o xs) :
    Calls Try.prog 137 #[.agg #[.int .i64 x, .int .i64 y, .int .i64 w, .int .i64 h, .slice (some ⟨b, o, none⟩) n c]] W fun e w' => ∃ g, e = .returned (.tuple #[.agg #[.int .i64 x, .int .i64 y, .int .i64 w, .int .i64 h, .slice (some ⟨g, 0, none⟩) n n], .int .i64 0]) ∧ W.heap.size ≤ g ∧ Row w' g n ((List.range n).map fun k => canon (xs.getD k 0)) ∧ Below W.heap.size W w' := by
  have hn : n ≤ maxLen := by unfold maxLen; omega
  have HH := Lib.hid (And.intro hM (And.intro hN hxs))
  clear hM hN hxs
  go_enter Try.func137, Try.ntmps137
  go_wp2_with fail
  refine nm_call ?_
  intro wb hwb
  have x0 : Bx wb (W.heap.size) 26 #[.int .i64 x, .int .i64 y, .int .i64 w, .int .i64 h, .slice (some ⟨b, o, none⟩) n c] := by rw [hwb]; exact Bx.alloc (Bx.new _ _ _) _
  have x1 : Bx wb (W.heap.size + 1) 26 #[.int .i64 0, .int .i64 0, .int .i64 0, .int .i64 0, .slice none 0 0] := by rw [hwb]; exact Bx.at _ (by simp)
  have B1 : Below W.heap.size W wb := by rw [hwb]; exact bnew (bnew (Below.refl _ W))
  clear hwb
  refine (frame_Check _ _ _ _ _ _ _ _ hn).mono ?_
  rw [hc]
  rintro e w1 ⟨rfl, hb⟩
  replace x0 := x0.keep hb
  replace x1 := x1.keep hb
  have B2 := bcall B1 hb
  replace hrd := hrd.keep B2
  clear hb hc B1
  obtain ⟨q0, f0, l0⟩ := x0.all
  obtain ⟨q1, f1, l1⟩ := x1.all
  go_wp2_with fail
  refine (frame_each x y w h M n _ _ _ _ HH.out.1 hM2 HH.out.2.1 hw1 hw2 (clean_gives x y w h b o c n _ xs _ HH.out.2.2 hrd x0)).mono ?_
  rintro e w2 ⟨g, rfl, hg, hrow, hb⟩
  have hgn : W.heap.size + 1 ≠ g := by omega
  have hge : W.heap.size ≤ g := by omega
  clear q0 f0 l0 q1 f1 l1
  replace x1 := x1.keep hb
  have B3 := bcall B2 hb
  clear hb B2 hg x0 hrd
  obtain ⟨q0, f0, l0⟩ := x1.all
  go_wp2_with fail
  refine bodyPost_ret (v := .tuple #[.agg #[.int .i64 x, .int .i64 y, .int .i64 w, .int .i64 h, .slice (some ⟨g, 0, none⟩) n n], .int .i64 0]) (by simp [results, Try.results137, go_sem, q0]) rfl ⟨g, rfl, hge, ?_, ?_⟩
  · exact Row.other' hgn (Row.other' hgn (Row.other' hgn (Row.other' hgn (Row.other' hgn hrow))))
  · exact bput (by omega) (bput (by omega) (bput (by omega) (bput (by omega) (bput (by omega) B3))))

set_option maxRecDepth 100000 in
set_option maxHeartbeats 2000000 in
theorem frame_Put_out (x y w h u v : Int) (a : Option Addr) (n c : Nat) (F : Nat → Nat) (W : World) (hn : n ≤ maxLen) (hc : checkFrame x y w h n = 0) (hr : checkRegion x y w h = 0) (hh : hasB x y w h u v = false) :
    Calls Try.prog 63 #[.agg #[.int .i64 x, .int .i64 y, .int .i64 w, .int .i64 h, .slice a n c], .int .i64 u, .int .i64 v, .agg #[.float .f32 (F 0), .float .f32 (F 1), .float .f32 (F 2), .float .f32 (F 3)]] W fun e w' => e = .returned (.tuple #[.agg #[.int .i64 0, .int .i64 0, .int .i64 0, .int .i64 0, .slice none 0 0], .int .i64 5]) ∧ Below W.heap.size W w' := by
  obtain ⟨a1, a2, a3, a4, _, a6, a7, a8, a9⟩ := checkRegion_zero hr
  go_enter Try.func63, Try.ntmps63
  go_wp2_with fail
  refine nm_call ?_
  intro wb hwb
  have x0 : Bx wb (W.heap.size) 26 #[.int .i64 x, .int .i64 y, .int .i64 w, .int .i64 h, .slice a n c] := by rw [hwb]; exact Bx.alloc (Bx.alloc (Bx.new _ _ _) _) _
  have x1 : Bx wb (W.heap.size + 1) 35 #[.float .f32 (F 0), .float .f32 (F 1), .float .f32 (F 2), .float .f32 (F 3)] := by rw [hwb]; exact Bx.alloc (Bx.at _ (by simp)) _
  have x2 : Bx wb (W.heap.size + 1 + 1) 26 #[.int .i64 0, .int .i64 0, .int .i64 0, .int .i64 0, .slice none 0 0] := by rw [hwb]; exact Bx.at _ (by simp)
  have B1 : Below W.heap.size W wb := by rw [hwb]; exact bnew (bnew (bnew (Below.refl _ W)))
  clear hwb
  refine (frame_Check _ _ _ _ _ _ _ _ hn).mono ?_
  rw [hc]
  rintro e w1 ⟨rfl, hb⟩
  replace x0 := x0.keep hb
  replace x1 := x1.keep hb
  replace x2 := x2.keep hb
  have B2 := bcall B1 hb
  clear hb hc B1 hr
  obtain ⟨q0, f0, l0⟩ := x0.all
  obtain ⟨q1, f1, l1⟩ := x1.all
  obtain ⟨q2, f2, l2⟩ := x2.all
  go_wp2_with fail
  refine (frame_has_at _ _ _ _ _ _ _ hh _ (by omega) (by omega) (by omega) (by omega) (by omega) (by omega) (by omega) (by omega)).mono ?_
  rintro e w2 ⟨rfl, hb⟩
  clear q0 f0 l0 q1 f1 l1 q2 f2 l2
  replace x0 := x0.keep hb
  replace x1 := x1.keep hb
  replace x2 := x2.keep hb
  have B3 := bcall B2 hb
  clear hb B2
  obtain ⟨q0, f0, l0⟩ := x0.all
  obtain ⟨q1, f1, l1⟩ := x1.all
  obtain ⟨q2, f2, l2⟩ := x2.all
  go_wp2_with fail
  refine bodyPost_ret (v := .tuple #[.agg #[.int .i64 0, .int .i64 0, .int .i64 0, .int .i64 0, .slice none 0 0], .int .i64 5]) (by simp [results, Try.results63, go_sem, q2]) rfl ⟨rfl, ?_⟩
  exact bput (by omega) (bput (by omega) (bput (by omega) (bput (by omega) (bput (by omega) B3))))

set_option maxRecDepth 100000 in
set_option maxHeartbeats 2000000 in
theorem frame_Put_in (x y : Int) (w h i j b o n c M : Nat) (xs : List Nat) (F : Nat → Nat) (W : World) (hc : checkFrame x y w h n = 0) (hr : checkRegion x y w h = 0) (hM : M = w * h) (hN : n = 4 * M) (hi : i < w) (hj : j < h) (hxs : xs.length = n) (hrd : Rd W b o xs) :
    Calls Try.prog 63 #[.agg #[.int .i64 x, .int .i64 y, .int .i64 (w : Int), .int .i64 (h : Int), .slice (some ⟨b, o, none⟩) n c], .int .i64 (x + (i : Int)), .int .i64 (y + (j : Int)), .agg #[.float .f32 (F 0), .float .f32 (F 1), .float .f32 (F 2), .float .f32 (F 3)]] W fun e w' =>
      ∃ g, e = .returned (.tuple #[.agg #[.int .i64 x, .int .i64 y, .int .i64 (w : Int), .int .i64 (h : Int), .slice (some ⟨g, 0, none⟩) n n], .int .i64 0]) ∧ W.heap.size ≤ g ∧ Row w' g n ((List.range n).map fun k => canon (putV xs (4 * (j * w + i)) F k)) ∧ Below W.heap.size W w' := by
  obtain ⟨a1, a2, a3, a4, a5, a6, a7, a8, a9⟩ := checkRegion_zero hr
  have hMi : (M : Int) = (w : Int) * (h : Int) := by rw [hM]; push_cast; rfl
  have hM2 : M ≤ 65536 := by rw [← hMi] at a5; omega
  have hn : n ≤ maxLen := by unfold maxLen; omega
  have hn2 : n ≤ 262144 := by omega
  have hjw : j * w + w ≤ h * w := by rw [← Nat.succ_mul]; exact Nat.mul_le_mul_right _ hj
  have hF4 : 4 * (j * w + i) + 4 ≤ n := by rw [hN, hM, Nat.mul_comm w h]; omega
  have hh : hasB x y w h (x + (i : Int)) (y + (j : Int)) = true := by
    unfold hasB
    simp only [Bool.and_eq_true, decide_eq_true_eq]
    omega
  have HH := Lib.hid (And.intro hMi (And.intro hN hxs))
  obtain ⟨P0, hP0⟩ : ∃ P0, 4 * (j * w + i) = P0 := ⟨_, rfl⟩
  have HP := Lib.hid hP0
  rw [hP0] at hF4
  rw [hP0]
  clear hM hN hxs hMi a5 hjw hP0
  go_enter Try.func63, Try.ntmps63
  go_wp2_with fail
  refine nm_call ?_
  intro wb hwb
  have x0 : Bx wb (W.heap.size) 26 #[.int .i64 x, .int .i64 y, .int .i64 (w : Int), .int .i64 (h : Int), .slice (some ⟨b, o, none⟩) n c] := by rw [hwb]; exact Bx.alloc (Bx.alloc (Bx.new _ _ _) _) _
  have x1 : Bx wb (W.heap.size + 1) 35 #[.float .f32 (F 0), .float .f32 (F 1), .float .f32 (F 2), .float .f32 (F 3)] := by rw [hwb]; exact Bx.alloc (Bx.at _ (by simp)) _
  have x2 : Bx wb (W.heap.size + 1 + 1) 26 #[.int .i64 0, .int .i64 0, .int .i64 0, .int .i64 0, .slice none 0 0] := by rw [hwb]; exact Bx.at _ (by simp)
  have B1 : Below W.heap.size W wb := by rw [hwb]; exact bnew (bnew (bnew (Below.refl _ W)))
  clear hwb
  refine (frame_Check _ _ _ _ _ _ _ _ hn).mono ?_
  rw [hc]
  rintro e w1 ⟨rfl, hb⟩
  replace x0 := x0.keep hb
  replace x1 := x1.keep hb
  replace x2 := x2.keep hb
  have B2 := bcall B1 hb
  replace hrd := hrd.keep B2
  clear hb hc B1 hr
  obtain ⟨q0, f0, l0⟩ := x0.all
  obtain ⟨q1, f1, l1⟩ := x1.all
  obtain ⟨q2, f2, l2⟩ := x2.all
  go_wp2_with fail
  refine (frame_has_at _ _ _ _ _ _ _ hh _ (by omega) (by omega) (by omega) (by omega) (by omega) (by omega) (by omega) (by omega)).mono ?_
  rintro e w2 ⟨rfl, hb⟩
  clear q0 f0 l0 q1 f1 l1 q2 f2 l2
  replace x0 := x0.keep hb
  replace x1 := x1.keep hb
  replace x2 := x2.keep hb
  have B3 := bcall B2 hb
  replace hrd := hrd.keep hb
  clear hb B2 hh
  obtain ⟨q0, f0, l0⟩ := x0.all
  obtain ⟨q1, f1, l1⟩ := x1.all
  obtain ⟨q2, f2, l2⟩ := x2.all
  go_wp2_with fail
  refine (frame_offset x y w h i j _ (by omega) (by omega) (by omega) (by omega) (by omega) (by omega) (by omega)).mono ?_
  rw [HP.out]
  rintro e w3 ⟨rfl, hb⟩
  clear q0 f0 l0 q1 f1 l1 q2 f2 l2
  replace x0 := x0.keep hb
  replace x1 := x1.keep hb
  replace x2 := x2.keep hb
  have B4 := bcall B3 hb
  replace hrd := hrd.keep hb
  clear hb B3
  obtain ⟨q0, f0, l0⟩ := x0.all
  obtain ⟨q1, f1, l1⟩ := x1.all
  obtain ⟨q2, f2, l2⟩ := x2.all
  go_wp2_with fail
  refine nm_call ?_
  intro wb hwb
  obtain ⟨Ti, xi⟩ : ∃ T, Bx wb w3.heap.size T #[.int .i64 (P0 : Int)] := by rw [hwb]; exact ⟨_, Bx.new _ _ _⟩
  have hb : Below w3.heap.size w3 wb := by rw [hwb]; exact bnew (Below.refl _ _)
  clear hwb
  clear q0 f0 l0 q1 f1 l1 q2 f2 l2
  replace x0 := x0.keep hb
  replace x1 := x1.keep hb
  replace x2 := x2.keep hb
  have B5 := bcall B4 hb
  replace hrd := hrd.keep hb
  clear hb B4
  refine (frame_each x y w h M n _ _ _ _ HH.out.1 hM2 HH.out.2.1 a1 a2 (put_gives x y w h b o c n P0 _ _ _ _ _ xs F _ hn2 hF4 HH.out.2.2 hrd xi x1 x0)).mono ?_
  rintro e w4 ⟨g, rfl, hg, hrow, hb⟩
  have l2 := x2.lt
  replace x2 := x2.keep hb
  have B6 := bcall B5 hb
  have hgn : W.heap.size + 1 + 1 ≠ g := by omega
  have hge : W.heap.size ≤ g := by omega
  clear hb B5 hg x0 x1 xi hrd l2
  obtain ⟨q0, f0, l0⟩ := x2.all
  go_wp2_with fail
  refine bodyPost_ret (v := .tuple #[.agg #[.int .i64 x, .int .i64 y, .int .i64 (w : Int), .int .i64 (h : Int), .slice (some ⟨g, 0, none⟩) n n], .int .i64 0]) (by simp [results, Try.results63, go_sem, q0]) rfl ⟨g, rfl, hge, ?_, ?_⟩
  · exact Row.other' hgn (Row.other' hgn (Row.other' hgn (Row.other' hgn (Row.other' hgn hrow))))
  · exact bput (by omega) (bput (by omega) (bput (by omega) (bput (by omega) (bput (by omega) B6))))

end Go.Proofs.Ytoffnmpnhddaiaa
