/- scope.False of a right frame. -/
import Derived.Test.YtoffnmpnhddaiaaCol2
import Derived.Test.YtoffnmpnhddaiaaCol6
import Derived.Test.YtoffnmpnhddaiaaCol7
namespace Go.Proofs.Ytoffnmpnhddaiaa
open Go.RowKit

/-- False's pixel m. -/
def falseM (wa wb_ wc : Nat) (xs ls : List Nat) (n m c : Nat) : Nat := falseP ls (lumaV wa wb_ wc fun k => xs.getD (4 * m + k) 0) (xs.getD (4 * m + 3) 0) n c

theorem false_paints (x y : Int) (w h wa wb_ wc pl lb lo n c : Nat) (T : TypeId) (xs ls : List Nat) (W : World) (hl : ls.length = 5 * n) (hn : n ≤ 1000) (hrd : Rd W lb lo ls) (hp : Bx W pl T #[.slice (some ⟨lb, lo, none⟩) n c]) :
    Paints W 117 #[.pointer (some ⟨pl, 0, none⟩)] x y w h wa wb_ wc xs (falseM wa wb_ wc xs ls n) :=
  ⟨fun _ _ => call_enter Try.func117 (by kernel_rfl) (by kernel_rfl) _ _, fun i j X Y u _ _ _ _ hu =>
    scope_False1 X Y (lumaV wa wb_ wc fun k => xs.getD (4 * (j * w + i) + k) 0) pl lb lo n c T (fun k => xs.getD (4 * (j * w + i) + k) 0) ls u hl hn (hrd.below hu hrd.lt) (hp.below hu hp.lt)⟩

theorem bandsErr_ok {ls : List Nat} {n : Nat} (h : bandsErr ls n = 0) : 0 < n ∧ n ≤ 32 := by
  unfold bandsErr at h
  split at h
  · omega
  · split at h <;> omega

set_option maxRecDepth 100000 in
set_option maxHeartbeats 2000000 in
theorem scope_False_ok (x y : Int) (w h M N b o c wa wb_ wc n : Nat) (lv : Value) (xs ls : List Nat) (W : World) (x1 : -4000000 ≤ x) (x2 : x ≤ 4000000) (y1 : -4000000 ≤ y) (y2 : y ≤ 4000000) (hw1 : 0 < w) (hw : w ≤ 256) (hh1 : 0 < h) (hh : h ≤ 256)
    (hM : M = w * h) (hM2 : M ≤ 65536) (hN : N = 4 * M) (hnc : N ≤ c) (hck : checkFrame x y w h N = 0) (hxs : xs.length = N) (hrd : Rd W b o xs) (hwn : [wa, wb_, wc].all isNum = true) (hbe : bandsErr ls n = 0) (hs : SlB W lv ls n) :
    Calls Try.prog 54 #[.agg #[.int .i64 x, .int .i64 y, .int .i64 w, .int .i64 h, .slice (some ⟨b, o, none⟩) N c], .agg #[.float .f32 wa, .float .f32 wb_, .float .f32 wc], lv] W fun e w' =>
      ∃ g, e = .returned (.tuple #[.agg #[.int .i64 x, .int .i64 y, .int .i64 w, .int .i64 h, .slice (some ⟨g, 0, none⟩) N N], .int .i64 0]) ∧ W.heap.size ≤ g ∧ Row w' g N (madeL (falseM wa wb_ wc xs ls n) N) ∧ Below W.heap.size W w' := by
  have hs0 := hs
  obtain ⟨hl, la, lc, rfl, hmax, hform⟩ := hs
  obtain ⟨hn1, hn2⟩ := bandsErr_ok hbe
  rcases hform with h0 | ⟨lb, lo, rfl, hrl⟩
  · omega
  have hNm : N ≤ maxLen := by unfold maxLen; omega
  have Hh := Lib.hid (And.intro hM (And.intro hN (And.intro hck (And.intro hxs (And.intro hwn (And.intro hbe hl))))))
  clear hM hN hck hxs hwn hbe hl
  go_enter Try.func54, Try.ntmps54
  go_upto_region 1 with fail
  refine name_world ?_
  intro wb hwb
  have z3 : Bx wb W.heap.size 26 #[.int .i64 x, .int .i64 y, .int .i64 w, .int .i64 h, .slice (some ⟨b, o, none⟩) N c] := by rw [hwb]; exact Bx.alloc (Bx.alloc (Bx.alloc (Bx.new _ _ _) _) _) _
  have z4 : Bx wb (W.heap.size + 1) 75 #[.float .f32 wa, .float .f32 wb_, .float .f32 wc] := by rw [hwb]; exact Bx.alloc (Bx.alloc (Bx.at _ (by simp)) _) _
  have z5 : Bx wb (W.heap.size + 1 + 1) 76 #[.slice (some ⟨lb, lo, none⟩) n lc] := by rw [hwb]; exact Bx.alloc (Bx.at _ (by simp)) _
  have z6 : Bx wb (W.heap.size + 1 + 1 + 1) 26 #[.int .i64 0, .int .i64 0, .int .i64 0, .int .i64 0, .slice none 0 0] := by rw [hwb]; exact Bx.at _ (by simp)
  have B0 : Below W.heap.size W wb := by rw [hwb]; exact bnew (bnew (bnew (bnew (Below.refl _ W))))
  clear hwb
  obtain ⟨q3, f3, l3⟩ := z3.all
  go_wp2_with fail
  refine (frame_Check _ _ _ _ _ _ _ _ hNm).mono ?_
  rw [Hh.out.2.2.1]
  rintro e w1 ⟨rfl, hb1⟩
  have y3 := z3.keep hb1
  have y4 := z4.keep hb1
  have y5 := z5.keep hb1
  have y6 := z6.keep hb1
  have B1 := bcall B0 hb1
  clear z3 z4 z5 z6 B0 hb1 q3 f3 l3
  go_wp2_with fail
  have rd4 : Rd w1 (W.heap.size + 1) 0 [wa, wb_, wc] := by
    refine ⟨y4.lt, fun k hk => ?_⟩
    rw [Nat.zero_add, y4.all.1 k]
    match k, hk with
    | 0, _ => rfl
    | 1, _ => rfl
    | 2, _ => rfl
  refine (num_AllNumbers [wa, wb_, wc] _ 3 3 _ rfl (by omega) rd4).mono ?_
  rw [Hh.out.2.2.2.2.1]
  rintro e w2 ⟨rfl, hb2⟩
  have z3 := y3.keep hb2
  have z4 := y4.keep hb2
  have z5 := y5.keep hb2
  have z6 := y6.keep hb2
  have B2 := bcall B1 hb2
  clear y3 y4 y5 y6 B1 hb2 rd4
  obtain ⟨q5, f5, l5⟩ := z5.all
  go_wp2_with fail
  refine (scope_CheckBands _ ls n _ (hs0.keep B2)).mono ?_
  rw [Hh.out.2.2.2.2.2.1]
  rintro e w3 ⟨rfl, hb3⟩
  have y3 := z3.keep hb3
  have y4 := z4.keep hb3
  have y5 := z5.keep hb3
  have y6 := z6.keep hb3
  have B3 := bcall B2 hb3
  clear z3 z4 z5 z6 B2 hb3 q5 f5 l5
  obtain ⟨q3, f3, l3⟩ := y3.all
  obtain ⟨q4, f4, l4⟩ := y4.all
  go_wp2_with fail
  refine (scope_repainted x y w h M N b o N c wa wb_ wc _ _ xs (falseM wa wb_ wc xs ls n) _ x1 x2 y1 y2 hw1 hw hh1 hh Hh.out.1 hM2 Hh.out.2.1 Hh.out.2.1 hnc Hh.out.2.2.2.1 (hrd.keep B3) (false_paints x y w h wa wb_ wc _ lb lo n lc _ xs ls _ Hh.out.2.2.2.2.2.2 (by omega) (hrl.keep B3) y5)).mono ?_
  rintro e w4 ⟨g, rfl, hg, hrow, hb4⟩
  have z6 := y6.keep hb4
  have B4 := bcall B3 hb4
  have hs3 := B3.size
  have l6 := y6.lt
  clear y3 y4 y5 y6 B3 hb4 q3 f3 l3 q4 f4 l4
  obtain ⟨q6, f6, l6b⟩ := z6.all
  go_wp2_with fail
  refine bodyPost_ret (v := .tuple #[.agg #[.int .i64 x, .int .i64 y, .int .i64 w, .int .i64 h, .slice (some ⟨g, 0, none⟩) N N], .int .i64 0]) (by simp [results, Try.results54, go_sem, q6]) rfl ⟨g, rfl, by omega, ?_, ?_⟩
  · repeat (refine Row.other' (by omega) ?_)
    exact hrow
  · repeat (refine bput (by omega) ?_)
    exact B4
end Go.Proofs.Ytoffnmpnhddaiaa
