/- The reference's closure of Zebra. -/
import Derived.Test.YtoffnmpnhddaiaaCol4
import Derived.Test.YtoffnmpnhddaiaaPix
namespace Go.Proofs.Ytoffnmpnhddaiaa
open Go.RowKit

theorem ref_conv (n : Int) (W : World) : Calls Try.prog 123 #[.int .i64 n] W fun e w' => e = .returned (.float .f32 (floatOfInt .f32 n)) ∧ W = w' := by
  go_enter Try.func123, Try.ntmps123
  go_wp2
  go_ret
  exact ⟨rfl, rfl⟩

set_option maxRecDepth 100000 in
set_option maxHeartbeats 2000000 in
theorem ref_Zebra1 (x y w h X Y wd : Int) (b o n c wa wb_ wc lv pf pw pv pd : Nat) (Tw T1 T2 : TypeId) (xs : List Nat) (p : Nat → Nat) (W : World) (hx1 : -4000000 ≤ x) (hx2 : x ≤ 4000000) (hy1 : -4000000 ≤ y) (hy2 : y ≤ 4000000) (hw1 : 1 ≤ w) (hw2 : w ≤ 256) (hh1 : 1 ≤ h) (hh2 : h ≤ 256)
    (hX1 : -4100000 ≤ X) (hX2 : X ≤ 4100000) (hY1 : -4100000 ≤ Y) (hY2 : Y ≤ 4100000) (hd1 : 1 ≤ wd) (hd2 : wd ≤ 64)
    (hn : (n : Int) = 4 * w * h) (hnc : n ≤ c) (hxs : xs.length = n) (hrd : Rd W b o xs) (hpp : p = fun k => xs.getD (4 * pixNo x y w h X Y + k) 0)
    (hf : Bx W pf 26 #[.int .i64 x, .int .i64 y, .int .i64 w, .int .i64 h, .slice (some ⟨b, o, none⟩) n c]) (hpw : Bx W pw Tw #[.float .f32 wa, .float .f32 wb_, .float .f32 wc]) (hv : Bx W pv T1 #[.float .f32 lv]) (hd : Bx W pd T2 #[.int .i64 wd]) :
    Calls Try.prog 122 #[.int .i64 X, .int .i64 Y, .pointer (some ⟨pf, 0, none⟩), .pointer (some ⟨pw, 0, none⟩), .pointer (some ⟨pv, 0, none⟩), .pointer (some ⟨pd, 0, none⟩)] W fun e w' =>
      e = .returned (.agg #[.float .f32 (zebP (geB (lumaV wa wb_ wc p) lv) ((X + Y) / wd) p 0), .float .f32 (zebP (geB (lumaV wa wb_ wc p) lv) ((X + Y) / wd) p 1), .float .f32 (zebP (geB (lumaV wa wb_ wc p) lv) ((X + Y) / wd) p 2), .float .f32 (zebP (geB (lumaV wa wb_ wc p) lv) ((X + Y) / wd) p 3)]) ∧ Below W.heap.size W w' := by
  have hpx := fun u (hu : Rd u b o xs) => ref_PixelAt x y w h X Y b o n c xs u (by omega) (by omega) (by omega) (by omega) hw1 hw2 hh1 hh2 hn hnc hxs hu
  have hpe : pixV xs (pixNo x y w h X Y) = .agg #[.float .f32 (p 0), .float .f32 (p 1), .float .f32 (p 2), .float .f32 (p 3)] := by rw [hpp]; rfl
  rw [hpe] at hpx
  have hlum := fun u => ref_LumaOf wa wb_ wc p u
  have hz : ∀ c, zebP (geB (lumaV wa wb_ wc p) lv) ((X + Y) / wd) p c = if geB (lumaV wa wb_ wc p) lv then (if c = 3 then p 3 else if ((X + Y) / wd) % 2 = 0 then 1065353216 else 0) else p c := fun c => rfl
  have hz0 := hz 0
  have hz1 := hz 1
  have hz2 := hz 2
  have hz3 := hz 3
  clear hz hpe hpp hn hnc hxs
  generalize lumaV wa wb_ wc p = lu at *
  generalize zebP (geB lu lv) ((X + Y) / wd) p 0 = r0 at *
  generalize zebP (geB lu lv) ((X + Y) / wd) p 1 = r1 at *
  generalize zebP (geB lu lv) ((X + Y) / wd) p 2 = r2 at *
  generalize zebP (geB lu lv) ((X + Y) / wd) p 3 = r3 at *
  generalize p 0 = p0 at *
  generalize p 1 = p1 at *
  generalize p 2 = p2 at *
  generalize p 3 = p3 at *
  have Hz := Lib.hid (And.intro hz0 (And.intro hz1 (And.intro hz2 hz3)))
  have Hpx := Lib.hid hpx
  have Hlum := Lib.hid hlum
  clear hz0 hz1 hz2 hz3 hpx hlum
  have hbl := hrd.lt
  go_enter Try.func122, Try.ntmps122
  go_upto_region 1 with fail
  refine name_world ?_
  intro wb hwb
  have x8 : Bx wb W.heap.size 35 #[.float .f32 0, .float .f32 0, .float .f32 0, .float .f32 0] := by rw [hwb]; exact Bx.new _ _ _
  have B0 : Below W.heap.size W wb := by rw [hwb]; exact bnew (Below.refl _ W)
  clear hwb
  have zf := hf.keep B0
  obtain ⟨qf, ff, lf⟩ := zf.all
  go_wp2_with fail
  refine (Hpx.out _ (hrd.keep B0)).mono ?_
  rintro e w1 ⟨rfl, hb1⟩
  have y8 := x8.keep hb1
  have B1 := bcall B0 hb1
  clear x8 B0 hb1 zf qf ff lf hf hrd
  go_upto_region 2 with fail
  refine name_world ?_
  intro w2 hw2_
  have x9 : Bx w2 w1.heap.size 35 #[.float .f32 p0, .float .f32 p1, .float .f32 p2, .float .f32 p3] := by rw [hw2_]; exact Bx.new _ _ _
  have x8 : Bx w2 W.heap.size 35 #[.float .f32 0, .float .f32 0, .float .f32 0, .float .f32 0] := by rw [hw2_]; exact y8.alloc _
  have B2 : Below W.heap.size W w2 := by rw [hw2_]; exact bnew B1
  have h8 := y8.lt
  clear hw2_ y8 B1
  generalize w1.heap.size = p9 at *
  have zw := hpw.keep B2
  have zv := hv.keep B2
  have zd := hd.keep B2
  clear hpw hv hd
  obtain ⟨q9, f9, l9⟩ := x9.all
  obtain ⟨qw, fw, lw⟩ := zw.all
  obtain ⟨qv, fv, lv1⟩ := zv.all
  cases hge : geB lu lv
  all_goals
    have ho : (FloatKind.f32.format.order lu lv == some .gt || FloatKind.f32.format.order lu lv == some .eq) = _ := hge
    have Hg := Lib.hid hge
    clear hge
    refine wp_region_all (fun z : BW w2.heap.size w2 => z.w) (by kernel_rfl) (by kernel_rfl) (BW.start _ _) rfl ?_
    repeat (go_big_quiet_step ((go_at_call 120; exact BW.call (Nat.le_refl _) _ (Hlum.out _))))
    refine wpQuiet_nil ?_
    intro z
    have y8 := x8.keep z.below
    have y9 := x9.keep z.below
    have yd := zd.keep z.below
    have B3 := bcall B2 z.below
    clear x8 x9 zw zv zd B2 q9 f9 l9 qw fw lw qv fv lv1
    generalize z.w = w3 at *
    clear z
    obtain ⟨q8, f8, l8⟩ := y8.all
    obtain ⟨q9, f9, l9⟩ := y9.all
    obtain ⟨qd, fd, ld⟩ := yd.all
    clear ho
  · go_wp2_with fail
    have yz := (set4 y8 (.float .f32 p0) (.float .f32 p1) (.float .f32 p2) (.float .f32 p3)).1.all.1
    refine bodyPost_ret (v := .agg #[.float .f32 p0, .float .f32 p1, .float .f32 p2, .float .f32 p3]) (by simp [results, Try.results122, go_sem, yz]) rfl ⟨?_, bput (by omega) (bput (by omega) (bput (by omega) (bput (by omega) B3)))⟩
    obtain ⟨e0, e1, e2, e3⟩ := Hz.out
    simp only [Hg.out, Bool.false_eq_true, if_false] at e0 e1 e2 e3
    rw [e0, e1, e2, e3]
  · go_wp2_with fail
    refine (ref_quotient _ _ _ (by omega) (by omega) (by omega) (by omega)).mono ?_
    rintro e w4 ⟨rfl, hb4⟩
    have B4 := bcall B3 hb4
    have u8 := y8.keep hb4
    have u9 := y9.keep hb4
    clear y8 y9 yd B3 q8 f8 l8 q9 f9 l9 qd fd ld hb4
    have hq1 : -20000000 ≤ (X + Y) / wd ∧ (X + Y) / wd ≤ 20000000 := by
      have h1 := tdiv_bd (X + Y) wd 10000000 (by omega) (by omega)
      rcases floor_cases (X + Y) wd (by omega) with ⟨_, h2⟩ | ⟨_, h2⟩ <;> omega
    generalize (X + Y) / wd = q at *
    go_wp2_with fail
    refine (ref_quotient _ _ _ (by omega) (by omega) (by omega) (by omega)).mono ?_
    rintro e w5 ⟨rfl, hb5⟩
    have B5 := bcall B4 hb5
    have v8 := u8.keep hb5
    have v9 := u9.keep hb5
    clear u8 u9 B4 hb5
    have hod : q % 2 = 0 ∨ q % 2 = 1 := by omega
    have hrest : ∀ od : Int, od = q % 2 → (od = 0 ∨ od = 1) := by omega
    generalize hoe : q % 2 = od at *
    have Hoe := Lib.hid hoe
    clear hoe hrest
    obtain ⟨q8, f8, l8⟩ := v8.all
    obtain ⟨q9, f9, l9⟩ := v9.all
    rcases hod with rfl | rfl
    · go_wp2_with fail
      refine (ref_conv _ _).mono ?_
      rintro e w6 ⟨rfl, rfl⟩
      have hc : floatOfInt .f32 1 = 1065353216 := by decide
      rw [hc]
      go_wp2_with fail
      have yz := (set4 v8 (.float .f32 1065353216) (.float .f32 1065353216) (.float .f32 1065353216) (.float .f32 p3)).1.all.1
      refine bodyPost_ret (v := .agg #[.float .f32 1065353216, .float .f32 1065353216, .float .f32 1065353216, .float .f32 p3]) (by simp [results, Try.results122, go_sem, yz]) rfl ⟨?_, bput (by omega) (bput (by omega) (bput (by omega) (bput (by omega) B5)))⟩
      obtain ⟨e0, e1, e2, e3⟩ := Hz.out
      simp [Hg.out, Hoe.out] at e0 e1 e2 e3
      rw [e0, e1, e2, e3]
    · go_wp2_with fail
      refine (ref_conv _ _).mono ?_
      rintro e w6 ⟨rfl, rfl⟩
      have hc : floatOfInt .f32 0 = 0 := by decide
      rw [hc]
      go_wp2_with fail
      have yz := (set4 v8 (.float .f32 0) (.float .f32 0) (.float .f32 0) (.float .f32 p3)).1.all.1
      refine bodyPost_ret (v := .agg #[.float .f32 0, .float .f32 0, .float .f32 0, .float .f32 p3]) (by simp [results, Try.results122, go_sem, yz]) rfl ⟨?_, bput (by omega) (bput (by omega) (bput (by omega) (bput (by omega) B5)))⟩
      obtain ⟨e0, e1, e2, e3⟩ := Hz.out
      simp [Hg.out, Hoe.out] at e0 e1 e2 e3
      rw [e0, e1, e2, e3]
end Go.Proofs.Ytoffnmpnhddaiaa
