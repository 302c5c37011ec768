/- scope.Histogram, where something is wrong. -/
import Derived.Test.YtoffnmpnhddaiaaHsD
namespace Go.Proofs.Ytoffnmpnhddaiaa
open Go.RowKit

set_option maxRecDepth 100000 in
set_option maxHeartbeats 2000000 in
theorem scope_Histogram_ch (x y w h ch many : Int) (b o n c lo hi : Nat) (W : World) (hck : checkFrame x y w h n = 0) (hnm : n ≤ maxLen) (hch : ch < 0 ∨ 4 < ch) :
    Calls Try.prog 80 #[.agg #[.int .i64 x, .int .i64 y, .int .i64 w, .int .i64 h, .slice (some ⟨b, o, none⟩) n c], .int .i64 ch, .agg #[.float .f32 lo, .float .f32 hi, .int .i64 many]] W fun e w' =>
      ∃ e0 : Int, e0 ≠ 0 ∧ e = .returned (.tuple #[.agg #[.slice none 0 0, .int .i64 0, .int .i64 0, .int .i64 0], .int .i64 e0]) ∧ Below W.heap.size W w' := by
  go_enter Try.func80, Try.ntmps80
  go_upto_region 1 with fail
  refine name_world ?_
  intro wb hwb
  have x3 : Bx wb W.heap.size 26 #[.int .i64 x, .int .i64 y, .int .i64 w, .int .i64 h, .slice (some ⟨b, o, none⟩) n c] := by rw [hwb]; exact Bx.alloc (Bx.alloc (Bx.new _ _ _) _) _
  have x5 : Bx wb (W.heap.size + 1) 107 #[.float .f32 lo, .float .f32 hi, .int .i64 many] := by rw [hwb]; exact Bx.alloc (Bx.at _ (by simp)) _
  have x6 : Bx wb (W.heap.size + 1 + 1) 109 #[.slice none 0 0, .int .i64 0, .int .i64 0, .int .i64 0] := by rw [hwb]; exact Bx.at _ (by simp)
  have B0 : Below W.heap.size W wb := by rw [hwb]; exact bnew (bnew (bnew (Below.refl _ W)))
  clear hwb
  obtain ⟨q3, f3, l3⟩ := x3.all
  go_wp2_with fail
  refine (scope_values_bad x y w h ch b o n c _ hck hnm hch).mono ?_
  rintro e w1 ⟨rfl, hb1⟩
  have y6 := x6.keep hb1
  have B1 := bcall B0 hb1
  clear x3 x5 x6 B0 hb1 q3 f3 l3
  obtain ⟨q6, f6, l6⟩ := y6.all
  go_wp2_with fail
  have yz := (set4 y6 (.slice none 0 0) (.int .i64 0) (.int .i64 0) (.int .i64 0)).1.all.1
  refine bodyPost_ret (v := .tuple #[.agg #[.slice none 0 0, .int .i64 0, .int .i64 0, .int .i64 0], .int .i64 3]) (by simp [results, Try.results80, go_sem, yz]) rfl ⟨_, by decide, rfl, ?_⟩
  repeat (refine bput (by omega) ?_)
  exact B1

set_option maxRecDepth 100000 in
set_option maxHeartbeats 2000000 in
theorem scope_Histogram_bins (x y w h many : Int) (b o n c M ch lo hi : Nat) (xs : List Nat) (W : World) (hck : checkFrame x y w h n = 0) (hM : (M : Int) = w * h) (hM2 : M ≤ 65536) (hn : n = 4 * M) (hch : ch < 5) (hxs : xs.length = n) (hrd : Rd W b o xs)
    (hw1 : 1 ≤ w) (hw2 : w ≤ 256) (hh1 : 1 ≤ h) (hh2 : h ≤ 256) (hnc : n ≤ c) (hbe : binsErr lo hi many ≠ 0) :
    Calls Try.prog 80 #[.agg #[.int .i64 x, .int .i64 y, .int .i64 w, .int .i64 h, .slice (some ⟨b, o, none⟩) n c], .int .i64 (ch : Int), .agg #[.float .f32 lo, .float .f32 hi, .int .i64 many]] W fun e w' =>
      ∃ e0 : Int, e0 ≠ 0 ∧ e = .returned (.tuple #[.agg #[.slice none 0 0, .int .i64 0, .int .i64 0, .int .i64 0], .int .i64 e0]) ∧ Below W.heap.size W w' := by
  have Hh := Lib.hid (And.intro hM (And.intro hn hxs))
  clear hM hn hxs
  go_enter Try.func80, Try.ntmps80
  go_upto_region 1 with fail
  refine name_world ?_
  intro wb hwb
  have x3 : Bx wb W.heap.size 26 #[.int .i64 x, .int .i64 y, .int .i64 w, .int .i64 h, .slice (some ⟨b, o, none⟩) n c] := by rw [hwb]; exact Bx.alloc (Bx.alloc (Bx.new _ _ _) _) _
  have x5 : Bx wb (W.heap.size + 1) 107 #[.float .f32 lo, .float .f32 hi, .int .i64 many] := by rw [hwb]; exact Bx.alloc (Bx.at _ (by simp)) _
  have x6 : Bx wb (W.heap.size + 1 + 1) 109 #[.slice none 0 0, .int .i64 0, .int .i64 0, .int .i64 0] := by rw [hwb]; exact Bx.at _ (by simp)
  have B0 : Below W.heap.size W wb := by rw [hwb]; exact bnew (bnew (bnew (Below.refl _ W)))
  clear hwb
  obtain ⟨q3, f3, l3⟩ := x3.all
  go_wp2_with fail
  refine (scope_values x y w h b o n c M ch xs _ hck Hh.out.1 hM2 Hh.out.2.1 hch Hh.out.2.2 (hrd.keep B0) hw1 hw2 hh1 hh2 hnc).mono ?_
  rintro e w1 ⟨gv, rfl, hgv, hrow, hb1⟩
  have y5 := x5.keep hb1
  have y6 := x6.keep hb1
  have B1 := bcall B0 hb1
  clear x3 x5 x6 B0 hb1 q3 f3 l3 hgv hrow
  obtain ⟨q5, f5, l5⟩ := y5.all
  go_wp2_with fail
  refine (scope_CheckBins _ _ _ _).mono ?_
  generalize binsErr lo hi many = e0 at hbe ⊢
  have hb : (e0 != 0) = true := by simpa using hbe
  rintro e w2 ⟨rfl, hb2⟩
  have x6 := y6.keep hb2
  have B2 := bcall B1 hb2
  clear y5 y6 B1 hb2 q5 f5 l5
  obtain ⟨q6, f6, l6⟩ := x6.all
  go_wp2_with fail
  have yz := (set4 x6 (.slice none 0 0) (.int .i64 0) (.int .i64 0) (.int .i64 0)).1.all.1
  refine bodyPost_ret (v := .tuple #[.agg #[.slice none 0 0, .int .i64 0, .int .i64 0, .int .i64 0], .int .i64 e0]) (by simp [results, Try.results80, go_sem, yz]) rfl ⟨_, hbe, rfl, ?_⟩
  repeat (refine bput (by omega) ?_)
  exact B2
end Go.Proofs.Ytoffnmpnhddaiaa
