/- dyeref1.Clean: the frame of a frame's own pixels. -/
import Derived.Test.YtckadkobgmnoeaaDoorMade
import Derived.Test.YtckadkobgmnoeaaDoorPix
import Derived.Test.YtckadkobgmnoeaaDoorTail
import Derived.Laws.EntriesVeiled
namespace Go.Proofs.YtckadkobgmnoeaaDoor
open Go.RowKit

theorem call_enter {P : Program} {f : FuncId} {fn : Func} (hf : P.funcs[f]? = some fn) (hn : (fn.name == "runtime.NumGoroutine") = false) (hb : fn.body.isNone = false) (args : Array Value) (w : World) : (callFunc f args).run P w = .ok (.enter f args) w := by
  have h1 : fn.name ≠ "runtime.NumGoroutine" := by simpa using hn
  have h2 : ¬ fn.body = none := by intro e; rw [e] at hb; cases hb
  simp [callFunc, hf, h1, h2]

theorem pixNo_at (x y : Int) (w h i j : Nat) (hi : i < w) (hj : j < h) : pixNo x y w h (x + (i : Int)) (y + (j : Int)) = j * w + i := by
  unfold pixNo
  rw [clampTo_in x w _ (by omega) (by omega), clampTo_in y h _ (by omega) (by omega)]
  have e : (y + (j : Int) - y) * (w : Int) + (x + (i : Int)) - x = ((j * w + i : Nat) : Int) := by
    rw [show y + (j : Int) - y = (j : Int) by omega]
    push_cast
    omega
  rw [e]
  rfl

set_option maxRecDepth 100000 in
theorem ref_Clean1 (a b c d : Nat) (W : World) :
    Calls Tryd.prog 26 #[.agg #[.float .f32 a, .float .f32 b, .float .f32 c, .float .f32 d]] W fun e w' => e = .returned (.agg #[.float .f32 a, .float .f32 b, .float .f32 c, .float .f32 d]) ∧ Below W.heap.size W w' := by
  go_enter Tryd.func26, Tryd.ntmps26
  go_wp2_with fail
  refine bodyPost_ret (v := .agg #[.float .f32 a, .float .f32 b, .float .f32 c, .float .f32 d]) (by simp [results, Tryd.results26, go_sem]) rfl ⟨rfl, bnew (bnew (Below.refl _ W))⟩

set_option maxRecDepth 100000 in
set_option maxHeartbeats 1000000 in
theorem each_pix (x y : Int) (w h pb fb b o n c : Nat) (T : TypeId) (xs : List Nat) (W : World) (x1 : -4000000 ≤ x) (x2 : x ≤ 4000000) (y1 : -4000000 ≤ y) (y2 : y ≤ 4000000) (hw1 : 0 < w) (hw : w ≤ 256) (hh1 : 0 < h) (hh : h ≤ 256)
    (hn : n = 4 * (w * h)) (hnc : n ≤ c) (hxs : xs.length = n) (hrd : Rd W b o xs) (hp : Bx W pb T #[.func (.func 26) #[] #[]])
    (hf : Bx W fb 26 #[.int .i64 x, .int .i64 y, .int .i64 w, .int .i64 h, .slice (some ⟨b, o, none⟩) n c]) :
    Makes W 39 #[.pointer (some ⟨pb, 0, none⟩), .pointer (some ⟨fb, 0, none⟩)] x y w h (fun p k => xs.getD (4 * p + k) 0) := by
  refine ⟨fun args u => ?_, fun i j u hi hj hu => ?_⟩
  · exact call_enter Tryd.func39 (by kernel_rfl) (by kernel_rfl) _ _
  · have hpix := pixNo_at x y w h i j hi hj
    have hm := hrd.below hu hrd.lt
    have z0 := hp.below hu hp.lt
    have z1 := hf.below hu hf.lt
    have hn4 : (n : Int) = 4 * (w : Int) * (h : Int) := by rw [hn]; push_cast; rw [Int.mul_assoc]
    clear hrd hp hf hu
    have Hn := Lib.hid (And.intro hn4 hxs)
    have Hp := Lib.hid hpix
    clear hn hn4 hpix hxs
    have l0 := z0.lt
    have l1 := z1.lt
    go_enter Tryd.func39, Tryd.ntmps39
    go_wp2_with fail
    refine name_world ?_
    intro wb hwb
    have B1 : Below u.heap.size u wb := by rw [hwb]; exact bnew (Below.refl _ u)
    have xr : Bx wb u.heap.size 64 #[.float .f32 0, .float .f32 0, .float .f32 0, .float .f32 0] := by rw [hwb]; exact Bx.new _ _ _
    clear hwb
    have x0 := z0.keep B1
    have x1 := z1.keep B1
    have m1 := hm.keep B1
    clear z0 z1 hm
    obtain ⟨q0, f0, k0⟩ := x0.all
    obtain ⟨q1, f1, k1⟩ := x1.all
    refine wp_region_tail (fun z : BW wb.heap.size wb => z.w) 6 (by kernel_rfl) (by kernel_rfl) (BW.start _ _) rfl ?_
    simp only [List.take_succ_cons, List.take_zero, List.drop_succ_cons, List.drop_zero]
    repeat (go_big_quiet_step (first
      | (go_at_call 40; exact BW.call (Nat.le_refl _) _ (ref_PixelAt x y w h (x + (i : Int)) (y + (j : Int)) b o n c xs _ (by omega) (by omega) (by omega) (by omega) (by omega) (by omega) (by omega) (by omega) Hn.out.1 hnc Hn.out.2 (m1.keep (BW.below _))))
      | (go_at_call 26; exact BW.call (Nat.le_refl _) _ (ref_Clean1 _ _ _ _ _))))
    refine wpQuiet_nil ?_
    intro z
    have xz := xr.keep z.below
    obtain ⟨q2, f2, k2⟩ := xz.all
    go_wp2_with fail
    refine bodyPost_ret (v := pixV xs (pixNo x y w h (x + (i : Int)) (y + (j : Int)))) (by simp [results, Tryd.results39, go_sem, q2, pixV]) rfl ⟨by rw [Hp.out]; rfl, ?_⟩
    have hB := bcall B1 z.below
    exact bput (by omega) (bput (by omega) (bput (by omega) (bput (by omega) hB)))

set_option maxRecDepth 100000 in
set_option maxHeartbeats 1000000 in
theorem ref_each (x y : Int) (w h M b o n c : Nat) (xs : List Nat) (W : World) (x1 : -4000000 ≤ x) (x2 : x ≤ 4000000) (y1 : -4000000 ≤ y) (y2 : y ≤ 4000000) (hw1 : 0 < w) (hw : w ≤ 256) (hh1 : 0 < h) (hh : h ≤ 256)
    (hM : M = w * h) (hM2 : M ≤ 65536) (hn : n = 4 * M) (hnc : n ≤ c) (hxs : xs.length = n) (hrd : Rd W b o xs) :
    Calls Tryd.prog 25 #[.agg #[.int .i64 x, .int .i64 y, .int .i64 w, .int .i64 h, .slice (some ⟨b, o, none⟩) n c], .func (.func 26) #[] #[]] W fun e w' =>
      ∃ g c', e = .returned (.agg #[.int .i64 x, .int .i64 y, .int .i64 w, .int .i64 h, .slice (some ⟨g, 0, none⟩) (4 * M) c']) ∧ 4 * M ≤ c' ∧ W.heap.size ≤ g ∧ Rd w' g 0 (madeL (fun p k => xs.getD (4 * p + k) 0) (4 * M)) ∧ Below W.heap.size W w' := by
  have Hn := Lib.hid (And.intro (hM ▸ hn) (And.intro hxs hM))
  clear hn hxs hM
  go_enter Tryd.func25, Tryd.ntmps25
  go_wp2_with fail
  refine nm_call ?_
  intro wb hwb
  have B1 : Below W.heap.size W wb := by rw [hwb]; exact bnew (bnew (bnew (Below.refl _ W)))
  have x0 : Bx wb W.heap.size 26 #[.int .i64 x, .int .i64 y, .int .i64 w, .int .i64 h, .slice (some ⟨b, o, none⟩) n c] := by rw [hwb]; exact Bx.alloc (Bx.alloc (Bx.new _ _ _) _) _
  obtain ⟨Tp, xp⟩ : ∃ T, Bx wb (W.heap.size + 1) T #[.func (.func 26) #[] #[]] := by rw [hwb]; exact ⟨_, Bx.alloc (Bx.at _ (by simp)) _⟩
  have xr : Bx wb (W.heap.size + 1 + 1) 26 #[.int .i64 0, .int .i64 0, .int .i64 0, .int .i64 0, .slice none 0 0] := by rw [hwb]; exact Bx.at _ (by simp)
  clear hwb
  have rd1 := hrd.keep B1
  clear hrd
  refine (ref_Made x y w h M _ _ _ wb Hn.out.2.2 hM2 x1 x2 y1 y2 hw1 hw hh1 hh (each_pix x y w h _ _ b o n c _ xs wb x1 x2 y1 y2 hw1 hw hh1 hh Hn.out.1 hnc Hn.out.2.1 rd1 xp x0)).mono ?_
  rintro e w1 ⟨g, c', rfl, hc', hg, hrd1, hb1⟩
  have yr := xr.keep hb1
  have B2 := bcall B1 hb1
  have hs := B1.size
  have hxl := xr.lt
  have hne : g ≠ W.heap.size + 1 + 1 := by omega
  have hge : W.heap.size ≤ g := by omega
  clear hb1 B1 x0 xp xr rd1 hg
  obtain ⟨q2, f2, l2⟩ := yr.all
  go_wp2_with fail
  refine bodyPost_ret (v := .agg #[.int .i64 x, .int .i64 y, .int .i64 w, .int .i64 h, .slice (some ⟨g, 0, none⟩) (4 * M) c']) (by simp [results, Tryd.results25, go_sem, q2]) rfl ⟨g, c', rfl, hc', hge, ?_, ?_⟩
  · exact Only.rd (b := W.heap.size + 1 + 1) ((((((Only.refl _ _).set _ _).set _ _).set _ _).set _ _).set _ _) hne hrd1
  · exact bput (by omega) (bput (by omega) (bput (by omega) (bput (by omega) (bput (by omega) B2))))

set_option maxRecDepth 100000 in
set_option maxHeartbeats 1000000 in
theorem ref_Clean (x y : Int) (w h M b o n c : Nat) (xs : List Nat) (W : World) (x1 : -4000000 ≤ x) (x2 : x ≤ 4000000) (y1 : -4000000 ≤ y) (y2 : y ≤ 4000000) (hw1 : 0 < w) (hw : w ≤ 256) (hh1 : 0 < h) (hh : h ≤ 256)
    (hM : M = w * h) (hM2 : M ≤ 65536) (hn : n = 4 * M) (hnc : n ≤ c) (hxs : xs.length = n) (hrd : Rd W b o xs) :
    Calls Tryd.prog 10 #[.agg #[.int .i64 x, .int .i64 y, .int .i64 w, .int .i64 h, .slice (some ⟨b, o, none⟩) n c]] W fun e w' =>
      ∃ g c', e = .returned (.agg #[.int .i64 x, .int .i64 y, .int .i64 w, .int .i64 h, .slice (some ⟨g, 0, none⟩) (4 * M) c']) ∧ 4 * M ≤ c' ∧ W.heap.size ≤ g ∧ Rd w' g 0 (madeL (fun p k => xs.getD (4 * p + k) 0) (4 * M)) ∧ Below W.heap.size W w' := by
  have Hn := Lib.hid (And.intro hn (And.intro hxs hM))
  clear hn hxs hM
  go_enter Tryd.func10, Tryd.ntmps10
  go_wp2_with fail
  refine nm_call ?_
  intro wb hwb
  have B1 : Below W.heap.size W wb := by rw [hwb]; exact bnew (bnew (Below.refl _ W))
  have xr : Bx wb (W.heap.size + 1) 26 #[.int .i64 0, .int .i64 0, .int .i64 0, .int .i64 0, .slice none 0 0] := by rw [hwb]; exact Bx.at _ (by simp)
  clear hwb
  have rd1 := hrd.keep B1
  clear hrd
  refine (ref_each x y w h M b o n c xs wb x1 x2 y1 y2 hw1 hw hh1 hh Hn.out.2.2 hM2 Hn.out.1 hnc Hn.out.2.1 rd1).mono ?_
  rintro e w1 ⟨g, c', rfl, hc', hg, hrd1, hb1⟩
  have yr := xr.keep hb1
  have B2 := bcall B1 hb1
  have hs := B1.size
  have hxl := xr.lt
  have hne : g ≠ W.heap.size + 1 := by omega
  have hge : W.heap.size ≤ g := by omega
  clear hb1 B1 xr rd1 hg
  obtain ⟨q2, f2, l2⟩ := yr.all
  go_wp2_with fail
  refine bodyPost_ret (v := .agg #[.int .i64 x, .int .i64 y, .int .i64 w, .int .i64 h, .slice (some ⟨g, 0, none⟩) (4 * M) c']) (by simp [results, Tryd.results10, go_sem, q2]) rfl ⟨g, c', rfl, hc', hge, ?_, ?_⟩
  · exact Only.rd (b := W.heap.size + 1) ((((((Only.refl _ _).set _ _).set _ _).set _ _).set _ _).set _ _) hne hrd1
  · exact bput (by omega) (bput (by omega) (bput (by omega) (bput (by omega) (bput (by omega) B2))))
end Go.Proofs.YtckadkobgmnoeaaDoor
