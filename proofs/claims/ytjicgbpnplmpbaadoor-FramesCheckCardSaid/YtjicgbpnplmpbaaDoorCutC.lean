/- frame.Fill, Clean, Put, whole. -/
import Derived.Test.YtjicgbpnplmpbaaDoorCutB
namespace Go.Proofs.YtjicgbpnplmpbaaDoor
open Go.RowKit

set_option maxRecDepth 100000 in
set_option maxHeartbeats 2000000 in
theorem frame_Clean_bad (x y w h k : Int) (a : Option Addr) (n c : Nat) (W : World) (hn : n ≤ maxLen) (hc : checkFrame x y w h n = k) (hk : k ≠ 0) :
    Calls Tryd.prog 12 #[.agg #[.int .i64 x, .int .i64 y, .int .i64 w, .int .i64 h, .slice a n c]] W fun e w' => e = .returned (.tuple #[.agg #[.int .i64 0, .int .i64 0, .int .i64 0, .int .i64 0, .slice none 0 0], .int .i64 k]) ∧ Below W.heap.size W w' := by
  go_enter Tryd.func12, Tryd.ntmps12
  go_wp2_with fail
  refine nm_call ?_
  intro wb hwb
  have x0 : Bx wb (W.heap.size) 26 #[.int .i64 x, .int .i64 y, .int .i64 w, .int .i64 h, .slice a n c] := by rw [hwb]; exact Bx.alloc (Bx.new _ _ _) _
  have x1 : Bx wb (W.heap.size + 1) 26 #[.int .i64 0, .int .i64 0, .int .i64 0, .int .i64 0, .slice none 0 0] := by rw [hwb]; exact Bx.at _ (by simp)
  have B1 : Below W.heap.size W wb := by rw [hwb]; exact bnew (bnew (Below.refl _ W))
  clear hwb
  refine (frame_Check _ _ _ _ _ _ _ _ hn).mono ?_
  rw [hc]
  rintro e w1 ⟨rfl, hb⟩
  replace x0 := x0.keep hb
  replace x1 := x1.keep hb
  have B2 := bcall B1 hb
  clear hb hc B1
  obtain ⟨q0, f0, l0⟩ := x0.all
  obtain ⟨q1, f1, l1⟩ := x1.all
  go_wp2_with fail
  refine bodyPost_ret (v := .tuple #[.agg #[.int .i64 0, .int .i64 0, .int .i64 0, .int .i64 0, .slice none 0 0], .int .i64 k]) (by simp [results, Tryd.results12, go_sem, q1]) rfl ⟨rfl, ?_⟩
  exact bput (by omega) (bput (by omega) (bput (by omega) (bput (by omega) (bput (by omega) B2))))

set_option maxRecDepth 100000 in
set_option maxHeartbeats 2000000 in
theorem frame_Clean_ok (x y w h : Int) (b o n c M : Nat) (xs : List Nat) (W : World) (hc : checkFrame x y w h n = 0) (hM : (M : Int) = w * h) (hM2 : M ≤ 65536) (hN : n = 4 * M) (hw1 : 1 ≤ w) (hw2 : w ≤ 256) (hxs : xs.length = n) (hrd : Rd W b o xs) :
    Calls Tryd.prog 12 #[.agg #[.int .i64 x, .int .i64 y, .int .i64 w, .int .i64 h, .slice (some ⟨b, o, none⟩) n c]] W fun e w' => ∃ g, e = .returned (.tuple #[.agg #[.int .i64 x, .int .i64 y, .int .i64 w, .int .i64 h, .slice (some ⟨g, 0, none⟩) n n], .int .i64 0]) ∧ W.heap.size ≤ g ∧ Row w' g n ((List.range n).map fun k => canon (xs.getD k 0)) ∧ Below W.heap.size W w' := by
  have hn : n ≤ maxLen := by unfold maxLen; omega
  have HH := Lib.hid (And.intro hM (And.intro hN hxs))
  clear hM hN hxs
  go_enter Tryd.func12, Tryd.ntmps12
  go_wp2_with fail
  refine nm_call ?_
  intro wb hwb
  have x0 : Bx wb (W.heap.size) 26 #[.int .i64 x, .int .i64 y, .int .i64 w, .int .i64 h, .slice (some ⟨b, o, none⟩) n c] := by rw [hwb]; exact Bx.alloc (Bx.new _ _ _) _
  have x1 : Bx wb (W.heap.size + 1) 26 #[.int .i64 0, .int .i64 0, .int .i64 0, .int .i64 0, .slice none 0 0] := by rw [hwb]; exact Bx.at _ (by simp)
  have B1 : Below W.heap.size W wb := by rw [hwb]; exact bnew (bnew (Below.refl _ W))
  clear hwb
  refine (frame_Check _ _ _ _ _ _ _ _ hn).mono ?_
  rw [hc]
  rintro e w1 ⟨rfl, hb⟩
  replace x0 := x0.keep hb
  replace x1 := x1.keep hb
  have B2 := bcall B1 hb
  replace hrd := hrd.keep B2
  clear hb hc B1
  obtain ⟨q0, f0, l0⟩ := x0.all
  obtain ⟨q1, f1, l1⟩ := x1.all
  go_wp2_with fail
  refine (frame_each x y w h M n _ _ _ _ HH.out.1 hM2 HH.out.2.1 hw1 hw2 (clean_gives x y w h b o c n _ xs _ HH.out.2.2 hrd x0)).mono ?_
  rintro e w2 ⟨g, rfl, hg, hrow, hb⟩
  have hgn : W.heap.size + 1 ≠ g := by omega
  have hge : W.heap.size ≤ g := by omega
  clear q0 f0 l0 q1 f1 l1
  replace x1 := x1.keep hb
  have B3 := bcall B2 hb
  clear hb B2 hg x0 hrd
  obtain ⟨q0, f0, l0⟩ := x1.all
  go_wp2_with fail
  refine bodyPost_ret (v := .tuple #[.agg #[.int .i64 x, .int .i64 y, .int .i64 w, .int .i64 h, .slice (some ⟨g, 0, none⟩) n n], .int .i64 0]) (by simp [results, Tryd.results12, go_sem, q0]) rfl ⟨g, rfl, hge, ?_, ?_⟩
  · exact Row.other' hgn (Row.other' hgn (Row.other' hgn (Row.other' hgn (Row.other' hgn hrow))))
  · exact bput (by omega) (bput (by omega) (bput (by omega) (bput (by omega) (bput (by omega) B3))))

end Go.Proofs.YtjicgbpnplmpbaaDoor
