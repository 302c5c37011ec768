/- NothingChanged, walked. -/
import Derived.Test.YtoffnmpnhddaiaaNcc
namespace Go.Proofs.Ytoffnmpnhddaiaa
open Go.RowKit

theorem sameTo_self (xs : List Nat) (k c : Nat) : sameTo xs xs k c = true := by
  induction c with
  | zero => rfl
  | succ c ih => simp [sameTo, ih, samePix]
theorem changed_self (x y w h : Int) (xs : List Nat) (M : Nat) : changed x y w h xs xs M = .tuple #[.agg #[.int .i64 0, .int .i64 0, .int .i64 0, .int .i64 0], .int .i64 0, .int .i64 0] := by
  have h1 : ∀ k, chTo w h (fun k => sameTo xs xs k 4) k = (0, w, h, 0, 0) := by
    intro k
    induction k with
    | zero => rfl
    | succ k ih => rw [chTo, ih]; simp [sameTo_self]
  unfold changed
  rw [h1]
  simp

theorem name_callN {P : Program} {f : FuncId} {args : Array Value} {w0 : World} {Q : Ending → World → Prop} (h : ∀ wb, wb = w0 → Calls P f args wb Q) : Calls P f args w0 Q := h _ rfl

set_option maxRecDepth 100000 in
set_option maxHeartbeats 4000000 in
theorem law_Nothing (x y w h : Int) (v : Value) (xs : List Nat) (W : World) (hs1 : Sl W v xs) :
    Calls Try.prog 13 #[.agg #[.int .i64 x, .int .i64 y, .int .i64 w, .int .i64 h, v]] W fun e w' =>
      e = .returned (.bool true) ∧ Below W.heap.size W w' := by
  have hv1 : v.cells = #[v] := by rcases hs1 with ⟨b, o, c, rfl, _⟩ | ⟨_, a, c, rfl⟩ <;> rfl
  go_enter Try.func13, Try.ntmps13
  go_wp2_with (go_at_call 15; refine (law_landed _).mono ?_; rintro e w' ⟨rfl, rfl⟩)
  refine (law_fit _ _ _ _ _ _ _ (hs1.keep (bnew (Below.refl _ W)))).mono ?_
  rintro e w1 ⟨g1, N1, hN1, rfl, hg1, row1, hb1⟩
  have x0 := (Bx.new W _ _).keep hb1
  have B1 := bcall (bnew (Below.refl _ W)) hb1
  obtain ⟨q0, f0, l0⟩ := x0.all
  have sd1 := fitSide_bd w
  have sd2 := fitSide_bd h
  have sp1 := fitPlace_bd x
  have sp2 := fitPlace_bd y
  have hNb := fit_pos hN1
  generalize fitSide w = fw at *
  generalize fitSide h = fh at *
  generalize fitPlace x = fx at *
  generalize fitPlace y = fy at *
  go_wp2_with fail
  obtain ⟨z0, on1⟩ := set5 x0 (.int .i64 fx) (.int .i64 fy) (.int .i64 fw) (.int .i64 fh) (.slice (some ⟨g1, 0, none⟩) N1 N1)
  refine name_callN ?_
  intro w3 hw3
  rw [← hw3] at z0 on1
  clear hw3
  have row3 := on1.row (by simp at hg1; omega) row1
  have B3 := bonly B1 on1 (by omega)
  clear x0 q0 f0 l0 hb1 row1 on1 hs1
  obtain ⟨M, hM, hNM⟩ := four_of hN1
  have hck := checkFrame_of (fitted_ok sd1.1 sd1.2 sd2.1 sd2.2 sp1.1 sp1.2 sp2.1 sp2.2) hN1
  generalize fitV xs N1 = ys at *
  have hxs := row3.len
  have Hk := Lib.hid (And.intro hck (And.intro hM (And.intro hNM hN1)))
  clear hck hM hNM hN1
  refine (scope_Peak_self _ _ _ _ _ _ _ ys _ (by omega) hNb.2 Hk.out.1 hxs row3.rd).mono ?_
  rintro e w4 ⟨⟨px, py, rfl⟩, hb4⟩
  have y0 := z0.keep hb4
  have row4 := row3.keep hb4
  have B4 := bcall B3 hb4
  clear z0 row3 B3 hb4
  obtain ⟨q0, f0, l0⟩ := y0.all
  go_wp2_with fail
  refine (scope_Mean_self _ _ _ _ _ _ _ ys _ (by omega) hNb.2 Hk.out.1 hxs (row4.alloc _).rd).mono ?_
  rintro e w5 ⟨rfl, hb5⟩
  have z0 := (y0.alloc _).keep hb5
  have row5 := (row4.alloc _).keep hb5
  have B5 := bcall (bnew B4) hb5
  clear y0 row4 B4 hb5 q0 f0 l0
  obtain ⟨q0, f0, l0⟩ := z0.all
  go_wp2_with fail
  refine (scope_Changed _ _ _ _ _ _ _ _ _ _ _ M ys ys _ (by omega) (by omega) (by omega) (by omega) (by omega) (by omega) (by omega) (by omega) Hk.out.2.1 Hk.out.2.2.1 Hk.out.1 hxs hxs row5.rd row5.rd).mono ?_
  rw [changed_self]
  rintro e w6 ⟨rfl, hb6⟩
  have y0 := z0.keep hb6
  have row6 := row5.keep hb6
  have B6 := bcall B5 hb6
  clear z0 row5 B5 hb6 q0 f0 l0
  obtain ⟨q0, f0, l0⟩ := y0.all
  go_wp2_with fail
  have r0 := Bx.new w6 23 #[.int .i64 0, .int .i64 0, .int .i64 0, .int .i64 0]
  refine (scope_Steps_self _ _ _ _ _ _ _ ys _ hNb.2 Hk.out.1 hxs (row6.alloc _).rd).mono ?_
  rintro e w7 ⟨g, rfl, hg, bx, hb7⟩
  have z0 := (y0.alloc _).keep hb7
  have z1 := r0.keep hb7
  have B7 := bcall (bnew B6) hb7
  clear y0 r0 row6 B6 hb7 q0 f0 l0
  obtain ⟨q0, f0, l0⟩ := z0.all
  obtain ⟨q1, f1, l1⟩ := z1.all
  obtain ⟨q2, f2, l2⟩ := bx.all
  have q20 := q2 0
  rw [cnt_at] at q20
  clear q2
  go_wp2_with fail
  go_quiet (fail)
  go_wp2_with fail
  go_ret
  exact ⟨rfl, bdrew B7⟩

end Go.Proofs.Ytoffnmpnhddaiaa
