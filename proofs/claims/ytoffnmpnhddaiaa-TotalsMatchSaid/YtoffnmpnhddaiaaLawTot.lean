/- TotalsMatch, walked. -/
import Derived.Test.YtoffnmpnhddaiaaTot
namespace Go.Proofs.Ytoffnmpnhddaiaa
open Go.RowKit

theorem name_callw {P : Program} {f : FuncId} {args : Array Value} {w0 : World} {Q : Ending → World → Prop} (h : ∀ wb, wb = w0 → Calls P f args wb Q) : Calls P f args w0 Q := h _ rfl

set_option maxRecDepth 100000 in
set_option maxHeartbeats 4000000 in
theorem law_Totals (x y w h : Int) (v : Value) (xs : List Nat) (W : World) (hs1 : Sl W v xs) :
    Calls Try.prog 4 #[.agg #[.int .i64 x, .int .i64 y, .int .i64 w, .int .i64 h, v]] W fun e w' =>
      e = .returned (.bool true) ∧ Below W.heap.size W w' := by
  have hv1 : v.cells = #[v] := by rcases hs1 with ⟨b, o, c, rfl, _⟩ | ⟨_, a, c, rfl⟩ <;> rfl
  go_enter Try.func4, Try.ntmps4
  go_wp2_with (go_at_call 15; refine (law_landed _).mono ?_; rintro e w' ⟨rfl, rfl⟩)
  refine (law_fit _ _ _ _ _ _ _ (hs1.keep (bnew (Below.refl _ W)))).mono ?_
  rintro e w1 ⟨g1, N1, hN1, rfl, hg1, row1, hb1⟩
  have x0 := (Bx.new W _ _).keep hb1
  have B1 := bcall (bnew (Below.refl _ W)) hb1
  obtain ⟨q0, f0, l0⟩ := x0.all
  have sd1 := fitSide_bd w
  have sd2 := fitSide_bd h
  have sp1 := fitPlace_bd x
  have sp2 := fitPlace_bd y
  generalize fitSide w = fw at *
  generalize fitSide h = fh at *
  generalize fitPlace x = fx at *
  generalize fitPlace y = fy at *
  go_wp2_with fail
  obtain ⟨z0, on1⟩ := set5 x0 (.int .i64 fx) (.int .i64 fy) (.int .i64 fw) (.int .i64 fh) (.slice (some ⟨g1, 0, none⟩) N1 N1)
  refine name_callw ?_
  intro w3 hw3
  rw [← hw3] at z0 on1
  clear hw3
  have row3 := on1.row (by simp at hg1; omega) row1
  have B3 := bonly B1 on1 (by omega)
  clear x0 q0 f0 l0 hb1 row1 on1 hs1
  obtain ⟨q0, f0, l0⟩ := z0.all
  obtain ⟨M, hM, hNM⟩ := four_of hN1
  obtain rfl : N1 = 4 * M := hNM
  have hck := checkFrame_of (fitted_ok sd1.1 sd1.2 sd2.1 sd2.2 sp1.1 sp1.2 sp2.1 sp2.2) hN1
  generalize fitV xs (4 * M) = ys at *
  have hM1 : 1 ≤ M := by
    have : 1 * 1 ≤ fw * fh := Int.mul_le_mul (by omega) (by omega) (by omega) (by omega)
    omega
  have hM2 : M ≤ 65536 := by
    have : fw * fh ≤ 256 * 256 := Int.mul_le_mul (by omega) (by omega) (by omega) (by omega)
    omega
  have hxs := row3.len
  have rd3 := row3.rd
  have Hk := Lib.hid (And.intro hck hM)
  clear hck hM hN1 q0 f0 l0
  refine (frame_Total _ _ _ _ _ _ _ _ M ys _ Hk.out.1 Hk.out.2 hM2 rfl hxs rd3 (by omega) (by omega) (by omega) (by omega)).mono ?_
  rintro e w4 ⟨rfl, hb4⟩
  have y0 := z0.keep hb4
  have rd4 := rd3.keep hb4
  have B4 := bcall B3 hb4
  clear z0 hb4
  obtain ⟨q0, f0, l0⟩ := y0.all
  go_wp2_with fail
  refine name_callw ?_
  intro w5 hw5
  have z2 := Bx.new w4 35 #[.float .f32 (totOf ys M 0), .float .f32 (totOf ys M 1), .float .f32 (totOf ys M 2), .float .f32 (totOf ys M 3)]
  have B5 := bnew (ob := (.cells #[.float .f32 (totOf ys M 0), .float .f32 (totOf ys M 1), .float .f32 (totOf ys M 2), .float .f32 (totOf ys M 3)] 35)) B4
  have rd5 := rd4.alloc (.cells #[.float .f32 (totOf ys M 0), .float .f32 (totOf ys M 1), .float .f32 (totOf ys M 2), .float .f32 (totOf ys M 3)] 35)
  have y5 := y0.alloc (.cells #[.float .f32 (totOf ys M 0), .float .f32 (totOf ys M 1), .float .f32 (totOf ys M 2), .float .f32 (totOf ys M 3)] 35)
  rw [← hw5] at z2 rd5 B5 y5
  clear hw5 q0 f0 l0 rd4 y0
  refine (ref_Total _ _ _ _ _ _ _ _ M ys _ hM1 hM2 rfl hxs rd5).mono ?_
  rintro e w6 ⟨rfl, hb6⟩
  have y2 := z2.keep hb6
  have B6 := bcall B5 hb6
  clear z2 hb6 rd5 y5
  obtain ⟨q2, f2, l2⟩ := y2.all
  generalize totOf ys M 0 = t0 at *
  generalize totOf ys M 1 = t1 at *
  generalize totOf ys M 2 = t2 at *
  generalize totOf ys M 3 = t3 at *
  go_wp2_with (go_at_call 24; refine (law_exact _ _ _).mono ?_; rintro e w' ⟨rfl, rfl⟩)
  all_goals go_ret
  all_goals refine ⟨?_, ?_⟩
  all_goals first | exact bnew B6 | exact ret_bool (by simp) | simp
end Go.Proofs.Ytoffnmpnhddaiaa
