/- dyeref1.False of a right frame. -/
import Derived.Test.YtoffnmpnhddaiaaCol3
import Derived.Test.YtoffnmpnhddaiaaCol8
import Derived.Test.YtoffnmpnhddaiaaEchG
import Derived.Test.YtoffnmpnhddaiaaMat
namespace Go.Proofs.Ytoffnmpnhddaiaa
open Go.RowKit

theorem false_turns (M wa wb_ wc pw pl lb lo n c : Nat) (Tw T : TypeId) (xs ls : List Nat) (W : World) (hl : ls.length = 5 * n) (hn : n ≤ 1000) (hrd : Rd W lb lo ls) (hpw : Bx W pw Tw #[.float .f32 wa, .float .f32 wb_, .float .f32 wc]) (hp : Bx W pl T #[.slice (some ⟨lb, lo, none⟩) n c]) :
    Turns W 119 #[.pointer (some ⟨pw, 0, none⟩), .pointer (some ⟨pl, 0, none⟩)] M xs (falseM wa wb_ wc xs ls n) :=
  ⟨fun _ _ => call_enter Try.func119 (by kernel_rfl) (by kernel_rfl) _ _, fun m u _ hu =>
    ref_False1 wa wb_ wc pw pl lb lo n c Tw T (fun k => xs.getD (4 * m + k) 0) ls u hl hn (hrd.below hu hrd.lt) (hpw.below hu hpw.lt) (hp.below hu hp.lt)⟩

/-- The error of False's arguments. -/
def falseErr (wa wb_ wc : Nat) (ls : List Nat) (n : Nat) : Int := firstV (whenV (!isNum wa || (!isNum wb_ || !isNum wc)) 2) (bandsErr ls n)

set_option maxRecDepth 100000 in
set_option maxHeartbeats 2000000 in
theorem ref_False_ok (x y : Int) (w h M N b o c wa wb_ wc n : Nat) (lv : Value) (xs ls : List Nat) (W : World) (x1 : -4000000 ≤ x) (x2 : x ≤ 4000000) (y1 : -4000000 ≤ y) (y2 : y ≤ 4000000) (hw1 : 0 < w) (hw : w ≤ 256) (hh1 : 0 < h) (hh : h ≤ 256)
    (hM : M = w * h) (hM2 : M ≤ 65536) (hN : N = 4 * M) (hnc : N ≤ c) (hxs : xs.length = N) (hrd : Rd W b o xs) (hfe : falseErr wa wb_ wc ls n = 0) (hbe : bandsErr ls n = 0) (hs : SlB W lv ls n) :
    Calls Try.prog 55 #[.agg #[.int .i64 x, .int .i64 y, .int .i64 w, .int .i64 h, .slice (some ⟨b, o, none⟩) N c], .agg #[.float .f32 wa, .float .f32 wb_, .float .f32 wc], lv] W fun e w' =>
      ∃ g c', e = .returned (.tuple #[.agg #[.int .i64 x, .int .i64 y, .int .i64 w, .int .i64 h, .slice (some ⟨g, 0, none⟩) (4 * M) c'], .int .i64 0]) ∧ 4 * M ≤ c' ∧ W.heap.size ≤ g ∧ Rd w' g 0 (madeL (falseM wa wb_ wc xs ls n) (4 * M)) ∧ Below W.heap.size W w' := by
  have hs0 := hs
  obtain ⟨hl, la, lc, rfl, hmax, hform⟩ := hs
  obtain ⟨hn1, hn2⟩ := bandsErr_ok hbe
  rcases hform with h0 | ⟨lb, lo, rfl, hrl⟩
  · omega
  have Hh := Lib.hid (And.intro hM (And.intro hN (And.intro hfe (And.intro hxs (And.intro hbe hl)))))
  clear hM hN hfe hxs hbe hl
  go_enter Try.func55, Try.ntmps55
  go_upto_region 1 with fail
  refine name_world ?_
  intro wb hwb
  have z3 : Bx wb W.heap.size 26 #[.int .i64 x, .int .i64 y, .int .i64 w, .int .i64 h, .slice (some ⟨b, o, none⟩) N c] := by rw [hwb]; exact Bx.alloc (Bx.alloc (Bx.alloc (Bx.new _ _ _) _) _) _
  have z4 : Bx wb (W.heap.size + 1) 75 #[.float .f32 wa, .float .f32 wb_, .float .f32 wc] := by rw [hwb]; exact Bx.alloc (Bx.alloc (Bx.at _ (by simp)) _) _
  have z5 : Bx wb (W.heap.size + 1 + 1) 76 #[.slice (some ⟨lb, lo, none⟩) n lc] := by rw [hwb]; exact Bx.alloc (Bx.at _ (by simp)) _
  have z6 : Bx wb (W.heap.size + 1 + 1 + 1) 26 #[.int .i64 0, .int .i64 0, .int .i64 0, .int .i64 0, .slice none 0 0] := by rw [hwb]; exact Bx.at _ (by simp)
  have B0 : Below W.heap.size W wb := by rw [hwb]; exact bnew (bnew (bnew (bnew (Below.refl _ W))))
  clear hwb
  obtain ⟨q4, f4, l4⟩ := z4.all
  obtain ⟨q5, f5, l5⟩ := z5.all
  have rd4 : Rd wb (W.heap.size + 1) 0 [wa, wb_, wc] := by
    refine ⟨z4.lt, fun k hk => ?_⟩
    rw [Nat.zero_add, z4.all.1 k]
    match k, hk with
    | 0, _ => rfl
    | 1, _ => rfl
    | 2, _ => rfl
  refine wp_region_tail (fun z : BW wb.heap.size wb => z.w) 6 (by kernel_rfl) (by kernel_rfl) (BW.start _ _) rfl ?_
  simp only [List.take_succ_cons, List.take_zero, List.drop_succ_cons, List.drop_zero]
  repeat (go_big_quiet_step (first
    | (go_at_call 118; exact BW.call (Nat.le_refl _) _ (ref_Numbers [wa, wb_, wc] _ 3 3 _ rfl (by omega) (rd4.keep (BW.below _))))
    | (go_at_call 53; exact BW.call (Nat.le_refl _) _ (ref_BandsError _ ls n _ ((hs0.keep B0).keep (BW.below _))))
    | (go_at_call 107; exact BW.call_same _ (ref_When _ _ _))))
  refine wpQuiet_nil ?_
  intro z
  have y3 := z3.keep z.below
  have y4 := z4.keep z.below
  have y5 := z5.keep z.below
  have y6 := z6.keep z.below
  have B1 := bcall B0 z.below
  clear z3 z4 z5 z6 B0 rd4 q4 f4 l4 q5 f5 l5
  generalize z.w = w1 at *
  clear z
  go_wp2_with fail
  refine (ref_First2 _ _ _ _ _ _ (Bx.new _ _ _)).mono ?_
  have hfe := Hh.out.2.2.1
  unfold falseErr at hfe
  rw [hfe]
  clear hfe
  rintro e w2 ⟨rfl, hb2⟩
  have z3 := (y3.alloc _).keep hb2
  have z4 := (y4.alloc _).keep hb2
  have z5 := (y5.alloc _).keep hb2
  have z6 := (y6.alloc _).keep hb2
  have B2 := bcall (bnew B1) hb2
  clear y3 y4 y5 y6 B1 hb2
  obtain ⟨q3, f3, l3⟩ := z3.all
  go_wp2_with fail
  refine (ref_eachG x y w h M b o N c _ _ (falseM wa wb_ wc xs ls n) xs _ x1 x2 y1 y2 hw1 hw hh1 hh Hh.out.1 hM2 Hh.out.2.1 hnc Hh.out.2.2.2.1 (hrd.keep B2) (false_turns _ wa wb_ wc _ _ lb lo n lc _ _ xs ls _ Hh.out.2.2.2.2.2 (by omega) (hrl.keep B2) z4 z5)).mono ?_
  rintro e w4 ⟨g, c', rfl, hc', hg, hrow, hb4⟩
  have y6 := z6.keep hb4
  have B4 := bcall B2 hb4
  have hs3 := B2.size
  have l6 := z6.lt
  clear z3 z4 z5 z6 B2 hb4 q3 f3 l3
  obtain ⟨q6, f6, l6b⟩ := y6.all
  go_wp2_with fail
  refine bodyPost_ret (v := .tuple #[.agg #[.int .i64 x, .int .i64 y, .int .i64 w, .int .i64 h, .slice (some ⟨g, 0, none⟩) (4 * M) c'], .int .i64 0]) (by simp [results, Try.results55, go_sem, q6]) rfl ⟨g, c', rfl, hc', by omega, ?_, ?_⟩
  · exact Only.rd (b := W.heap.size + 1 + 1 + 1) ((((((Only.refl _ _).set _ _).set _ _).set _ _).set _ _).set _ _) (by omega) hrow
  · repeat (refine bput (by omega) ?_)
    exact B4
end Go.Proofs.Ytoffnmpnhddaiaa
