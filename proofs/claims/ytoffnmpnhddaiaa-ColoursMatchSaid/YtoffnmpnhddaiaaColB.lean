/- dyeref1.False, where something is wrong. -/
import Derived.Test.YtoffnmpnhddaiaaColA
namespace Go.Proofs.Ytoffnmpnhddaiaa
open Go.RowKit

set_option maxRecDepth 100000 in
set_option maxHeartbeats 2000000 in
theorem ref_False_err (x y : Int) (w h N b o c wa wb_ wc n : Nat) (e0 : Int) (lv : Value) (ls : List Nat) (W : World) (hne : e0 ≠ 0) (hfe0 : falseErr wa wb_ wc ls n = e0) (hs : SlB W lv ls n) :
    Calls Try.prog 55 #[.agg #[.int .i64 x, .int .i64 y, .int .i64 w, .int .i64 h, .slice (some ⟨b, o, none⟩) N c], .agg #[.float .f32 wa, .float .f32 wb_, .float .f32 wc], lv] W fun e w' =>
      e = .returned (.tuple #[.agg #[.int .i64 0, .int .i64 0, .int .i64 0, .int .i64 0, .slice none 0 0], .int .i64 e0]) ∧ Below W.heap.size W w' := by
  have hs0 := hs
  obtain ⟨hl, la, lc, rfl, hmax, hform⟩ := hs
  have hne2 : (e0 != 0) = true := by simpa using hne
  have Hh := Lib.hid hfe0
  clear hl hform hfe0 hne
  go_enter Try.func55, Try.ntmps55
  go_upto_region 1 with fail
  refine name_world ?_
  intro wb hwb
  have z3 : Bx wb W.heap.size 26 #[.int .i64 x, .int .i64 y, .int .i64 w, .int .i64 h, .slice (some ⟨b, o, none⟩) N c] := by rw [hwb]; exact Bx.alloc (Bx.alloc (Bx.alloc (Bx.new _ _ _) _) _) _
  have z4 : Bx wb (W.heap.size + 1) 75 #[.float .f32 wa, .float .f32 wb_, .float .f32 wc] := by rw [hwb]; exact Bx.alloc (Bx.alloc (Bx.at _ (by simp)) _) _
  have z5 : Bx wb (W.heap.size + 1 + 1) 76 #[.slice la n lc] := by rw [hwb]; exact Bx.alloc (Bx.at _ (by simp)) _
  have z6 : Bx wb (W.heap.size + 1 + 1 + 1) 26 #[.int .i64 0, .int .i64 0, .int .i64 0, .int .i64 0, .slice none 0 0] := by rw [hwb]; exact Bx.at _ (by simp)
  have B0 : Below W.heap.size W wb := by rw [hwb]; exact bnew (bnew (bnew (bnew (Below.refl _ W))))
  clear hwb
  obtain ⟨q4, f4, l4⟩ := z4.all
  obtain ⟨q5, f5, l5⟩ := z5.all
  have rd4 : Rd wb (W.heap.size + 1) 0 [wa, wb_, wc] := by
    refine ⟨z4.lt, fun k hk => ?_⟩
    rw [Nat.zero_add, z4.all.1 k]
    match k, hk with
    | 0, _ => rfl
    | 1, _ => rfl
    | 2, _ => rfl
  refine wp_region_tail (fun z : BW wb.heap.size wb => z.w) 6 (by kernel_rfl) (by kernel_rfl) (BW.start _ _) rfl ?_
  simp only [List.take_succ_cons, List.take_zero, List.drop_succ_cons, List.drop_zero]
  repeat (go_big_quiet_step (first
    | (go_at_call 118; exact BW.call (Nat.le_refl _) _ (ref_Numbers [wa, wb_, wc] _ 3 3 _ rfl (by omega) (rd4.keep (BW.below _))))
    | (go_at_call 53; exact BW.call (Nat.le_refl _) _ (ref_BandsError _ ls n _ ((hs0.keep B0).keep (BW.below _))))
    | (go_at_call 107; exact BW.call_same _ (ref_When _ _ _))))
  refine wpQuiet_nil ?_
  intro z
  have y3 := z3.keep z.below
  have y4 := z4.keep z.below
  have y5 := z5.keep z.below
  have y6 := z6.keep z.below
  have B1 := bcall B0 z.below
  clear z3 z4 z5 z6 B0 rd4 q4 f4 l4 q5 f5 l5
  generalize z.w = w1 at *
  clear z
  go_wp2_with fail
  refine (ref_First2 _ _ _ _ _ _ (Bx.new _ _ _)).mono ?_
  have hfe := Hh.out
  unfold falseErr at hfe
  rw [hfe]
  clear hfe
  rintro e w2 ⟨rfl, hb2⟩
  have z3 := (y3.alloc _).keep hb2
  have z4 := (y4.alloc _).keep hb2
  have z5 := (y5.alloc _).keep hb2
  have z6 := (y6.alloc _).keep hb2
  have B2 := bcall (bnew B1) hb2
  clear y3 y4 y5 y6 B1 hb2
  obtain ⟨q6, f6, l6b⟩ := z6.all
  go_wp2_with fail
  have y6z := (set5 z6 (.int .i64 0) (.int .i64 0) (.int .i64 0) (.int .i64 0) (.slice none 0 0)).1.all.1
  refine bodyPost_ret (v := .tuple #[.agg #[.int .i64 0, .int .i64 0, .int .i64 0, .int .i64 0, .slice none 0 0], .int .i64 e0]) (by simp [results, Try.results55, go_sem, y6z]) rfl ⟨rfl, ?_⟩
  repeat (refine bput (by omega) ?_)
  exact B2
end Go.Proofs.Ytoffnmpnhddaiaa
