/- EditsDiffer, walked: for any two edit lists and any frame the law returns true. (printed by gen_lawdf.py) -/
import Derived.Test.YtfkiljhjiogdlaaDoorDaQ
import Derived.Test.YtfkiljhjiogdlaaDoorDaL
namespace Go.Proofs.YtfkiljhjiogdlaaDoor
open Go.RowKit

set_option maxRecDepth 100000 in
set_option maxHeartbeats 8000000 in
theorem law_Differ_a (ta : ByteArray) (ra : Int) (va : Value) (ea : List Ev) (tb : ByteArray) (rb : Int) (vb : Value) (eb : List Ev) (f : Int) (W : World) (ha : SlE W va ea) (hb : SlE W vb eb) (oka : editsErr ta ra ea ≠ 0) :
    Calls Tryd.prog 3 #[.agg #[.string ta, .int .i64 ra, va], .agg #[.string tb, .int .i64 rb, vb], .int .i64 f] W fun e w' => e = .returned (.bool true) ∧ Below W.heap.size W w' := by
  have hne : ((editsErr ta ra ea) != 0) = true := by simpa using oka
  have hz : ((editsErr ta ra ea) == 0) = false := by simpa using oka
  have KA : Hid (∀ w, SlE w va ea → Calls Tryd.prog 7 #[.agg #[.string ta, .int .i64 ra, va]] w fun e w' => e = .returned (.int .i64 (editsErr ta ra ea)) ∧ Below w.heap.size w w') := Lib.hid fun w h => ref_EditsError ta ra va ea w h
  have KC : Hid (∀ w, SlE w va ea → SlE w vb eb → Calls Tryd.prog 6 #[.agg #[.string ta, .int .i64 ra, va], .agg #[.string tb, .int .i64 rb, vb]] w fun e w' => e = .returned (.tuple #[.slice none 0 0, .int .i64 (editsErr ta ra ea)]) ∧ Below w.heap.size w w') := Lib.hid fun w h1 h2 => conform_Compare_e1 ta tb ra rb va vb ea eb w h1 h2 oka
  generalize editsErr ta ra ea = er at *
  clear oka
  have HA := Lib.hid ha
  have HB := Lib.hid hb
  obtain ⟨aa, ca, rfl, hma, hfa⟩ := ha
  obtain ⟨ab, cb, rfl, hmb, hfb⟩ := hb
  clear hma hmb hfa hfb
  obtain ⟨na, hna⟩ : ∃ n, n = ea.length := ⟨_, rfl⟩
  obtain ⟨nb, hnb⟩ : ∃ n, n = eb.length := ⟨_, rfl⟩
  rw [← hna] at HA KA KC ⊢
  rw [← hnb] at HB KC ⊢
  clear hna hnb
  go_enter Tryd.func3, Tryd.ntmps3
  go_upto_region 3 with (go_at_call 5; refine (law_landed _).mono ?_; rintro e w' ⟨rfl, rfl⟩)
  refine name_world ?_
  intro w0 hw0
  have x3 : Bx w0 W.heap.size 24 #[.string ta, .int .i64 ra, .slice aa na ca] := by rw [hw0]; exact ((Bx.new _ _ _).alloc _).alloc _
  have x4 : Bx w0 (W.heap.size + 1) 24 #[.string tb, .int .i64 rb, .slice ab nb cb] := by rw [hw0]; exact (Bx.at _ (by simp)).alloc _
  have x5 : Bx w0 (W.heap.size + 2) 3 #[.int .i64 f] := by rw [hw0]; exact Bx.at _ (by simp)
  have B : Below W.heap.size W w0 := by rw [hw0]; exact bnew (bnew (bnew (Below.refl _ W)))
  clear hw0
  obtain ⟨q3, f3, l3⟩ := x3.all
  obtain ⟨q4, f4, l4⟩ := x4.all
  go_wp2_with fail
  refine (KC.out _ (HA.out.keep B) (HB.out.keep B)).mono ?_
  rintro e w1 ⟨rfl, hb⟩
  clear q3 f3 l3 q4 f4 l4
  replace x3 := x3.keep hb
  replace x4 := x4.keep hb
  replace x5 := x5.keep hb
  replace B := bcall B hb
  clear hb
  obtain ⟨q3, f3, l3⟩ := x3.all
  obtain ⟨q4, f4, l4⟩ := x4.all
  go_wp2_with fail
  refine (KA.out _ (HA.out.keep B)).mono ?_
  rintro e w2 ⟨rfl, hb⟩
  clear q3 f3 l3 q4 f4 l4
  replace x3 := x3.keep hb
  replace x4 := x4.keep hb
  replace x5 := x5.keep hb
  replace B := bcall B hb
  clear hb
  obtain ⟨q3, f3, l3⟩ := x3.all
  obtain ⟨q4, f4, l4⟩ := x4.all
  go_wp2_with fail
  go_ret
  exact ⟨rfl, B⟩

set_option maxRecDepth 100000 in
set_option maxHeartbeats 8000000 in
theorem law_Differ_b (ta : ByteArray) (ra : Int) (va : Value) (ea : List Ev) (tb : ByteArray) (rb : Int) (vb : Value) (eb : List Ev) (f : Int) (W : World) (ha : SlE W va ea) (hb : SlE W vb eb) (oka : editsErr ta ra ea = 0) (okb : editsErr tb rb eb ≠ 0) :
    Calls Tryd.prog 3 #[.agg #[.string ta, .int .i64 ra, va], .agg #[.string tb, .int .i64 rb, vb], .int .i64 f] W fun e w' => e = .returned (.bool true) ∧ Below W.heap.size W w' := by
  have hne : ((editsErr tb rb eb) != 0) = true := by simpa using okb
  have KA : Hid (∀ w, SlE w va ea → Calls Tryd.prog 7 #[.agg #[.string ta, .int .i64 ra, va]] w fun e w' => e = .returned (.int .i64 0) ∧ Below w.heap.size w w') := Lib.hid fun w h => by rw [← oka]; exact ref_EditsError ta ra va ea w h
  have KB : Hid (∀ w, SlE w vb eb → Calls Tryd.prog 7 #[.agg #[.string tb, .int .i64 rb, vb]] w fun e w' => e = .returned (.int .i64 (editsErr tb rb eb)) ∧ Below w.heap.size w w') := Lib.hid fun w h => ref_EditsError tb rb vb eb w h
  have KC : Hid (∀ w, SlE w va ea → SlE w vb eb → Calls Tryd.prog 6 #[.agg #[.string ta, .int .i64 ra, va], .agg #[.string tb, .int .i64 rb, vb]] w fun e w' => e = .returned (.tuple #[.slice none 0 0, .int .i64 (editsErr tb rb eb)]) ∧ Below w.heap.size w w') := Lib.hid fun w h1 h2 => conform_Compare_e2 ta tb ra rb va vb ea eb w h1 h2 oka okb
  generalize editsErr tb rb eb = er at *
  clear oka okb
  have HA := Lib.hid ha
  have HB := Lib.hid hb
  obtain ⟨aa, ca, rfl, hma, hfa⟩ := ha
  obtain ⟨ab, cb, rfl, hmb, hfb⟩ := hb
  clear hma hmb hfa hfb
  obtain ⟨na, hna⟩ : ∃ n, n = ea.length := ⟨_, rfl⟩
  obtain ⟨nb, hnb⟩ : ∃ n, n = eb.length := ⟨_, rfl⟩
  rw [← hna] at HA KA KC ⊢
  rw [← hnb] at HB KB KC ⊢
  clear hna hnb
  go_enter Tryd.func3, Tryd.ntmps3
  go_upto_region 3 with (go_at_call 5; refine (law_landed _).mono ?_; rintro e w' ⟨rfl, rfl⟩)
  refine name_world ?_
  intro w0 hw0
  have x3 : Bx w0 W.heap.size 24 #[.string ta, .int .i64 ra, .slice aa na ca] := by rw [hw0]; exact ((Bx.new _ _ _).alloc _).alloc _
  have x4 : Bx w0 (W.heap.size + 1) 24 #[.string tb, .int .i64 rb, .slice ab nb cb] := by rw [hw0]; exact (Bx.at _ (by simp)).alloc _
  have x5 : Bx w0 (W.heap.size + 2) 3 #[.int .i64 f] := by rw [hw0]; exact Bx.at _ (by simp)
  have B : Below W.heap.size W w0 := by rw [hw0]; exact bnew (bnew (bnew (Below.refl _ W)))
  clear hw0
  obtain ⟨q3, f3, l3⟩ := x3.all
  obtain ⟨q4, f4, l4⟩ := x4.all
  go_wp2_with fail
  refine (KC.out _ (HA.out.keep B) (HB.out.keep B)).mono ?_
  rintro e w1 ⟨rfl, hb⟩
  clear q3 f3 l3 q4 f4 l4
  replace x3 := x3.keep hb
  replace x4 := x4.keep hb
  replace x5 := x5.keep hb
  replace B := bcall B hb
  clear hb
  obtain ⟨q3, f3, l3⟩ := x3.all
  obtain ⟨q4, f4, l4⟩ := x4.all
  go_wp2_with fail
  refine (KA.out _ (HA.out.keep B)).mono ?_
  rintro e w2 ⟨rfl, hb⟩
  clear q3 f3 l3 q4 f4 l4
  replace x3 := x3.keep hb
  replace x4 := x4.keep hb
  replace x5 := x5.keep hb
  replace B := bcall B hb
  clear hb
  obtain ⟨q3, f3, l3⟩ := x3.all
  obtain ⟨q4, f4, l4⟩ := x4.all
  go_wp2_with fail
  refine (KB.out _ (HB.out.keep B)).mono ?_
  rintro e w3 ⟨rfl, hb⟩
  clear q3 f3 l3 q4 f4 l4
  replace x3 := x3.keep hb
  replace x4 := x4.keep hb
  replace x5 := x5.keep hb
  replace B := bcall B hb
  clear hb
  obtain ⟨q3, f3, l3⟩ := x3.all
  obtain ⟨q4, f4, l4⟩ := x4.all
  go_wp2_with fail
  go_ret
  exact ⟨rfl, B⟩

set_option maxRecDepth 100000 in
set_option maxHeartbeats 8000000 in
theorem law_Differ_c (ta : ByteArray) (ra : Int) (va : Value) (ea : List Ev) (tb : ByteArray) (rb : Int) (vb : Value) (eb : List Ev) (f : Int) (W : World) (ha : SlE W va ea) (hb : SlE W vb eb) (oka : editsErr ta ra ea = 0) (okb : editsErr tb rb eb = 0) :
    Calls Tryd.prog 3 #[.agg #[.string ta, .int .i64 ra, va], .agg #[.string tb, .int .i64 rb, vb], .int .i64 f] W fun e w' => e = .returned (.bool true) ∧ Below W.heap.size W w' := by
  have Oa := Lib.hid (errs_zero oka).1
  have Ob := Lib.hid (errs_zero okb).1
  have KA : Hid (∀ w, SlE w va ea → Calls Tryd.prog 7 #[.agg #[.string ta, .int .i64 ra, va]] w fun e w' => e = .returned (.int .i64 0) ∧ Below w.heap.size w w') := Lib.hid fun w h => by rw [← oka]; exact ref_EditsError ta ra va ea w h
  have KB : Hid (∀ w, SlE w vb eb → Calls Tryd.prog 7 #[.agg #[.string tb, .int .i64 rb, vb]] w fun e w' => e = .returned (.int .i64 0) ∧ Below w.heap.size w w') := Lib.hid fun w h => by rw [← okb]; exact ref_EditsError tb rb vb eb w h
  have KC : Hid (∀ w, SlE w va ea → SlE w vb eb → Calls Tryd.prog 6 #[.agg #[.string ta, .int .i64 ra, va], .agg #[.string tb, .int .i64 rb, vb]] w fun e w' => ∃ v, e = .returned (.tuple #[v, .int .i64 0]) ∧ OutR w.heap.size w' v (cmpR ea eb) ∧ Below w.heap.size w w') := Lib.hid fun w h1 h2 => by rw [← cmp_same Oa.out Ob.out]; exact conform_Compare ta tb ra rb va vb ea eb w h1 h2 oka okb
  have KD : Hid (∀ w, SlE w va ea → SlE w vb eb → Calls Tryd.prog 9 #[.agg #[.string ta, .int .i64 ra, va], .agg #[.string tb, .int .i64 rb, vb]] w fun e w' => ∃ v, e = .returned v ∧ OutR w.heap.size w' v (cmpR ea eb) ∧ Below w.heap.size w w') := Lib.hid fun w h1 h2 => ref_Compare ta tb ra rb va vb ea eb w h1 h2 Oa.out Ob.out (errs_zero oka).2 (errs_zero okb).2
  have KT : Hid (0 ≤ f → (cmpR ea eb).any (inRg f) = false → alike2 ea eb f = true) := Lib.hid fun h0 h1 => told_ok Oa.out Ob.out h0 fun r hr h2 => by
    have h3 := List.any_eq_false.1 h1 r hr
    exact h3 (by unfold inRg; simp [h2.1, h2.2])
  generalize cmpR ea eb = CM at *
  clear oka okb
  have HA := Lib.hid ha
  have HB := Lib.hid hb
  obtain ⟨aa, ca, rfl, hma, hfa⟩ := ha
  obtain ⟨ab, cb, rfl, hmb, hfb⟩ := hb
  clear hma hmb hfa hfb
  obtain ⟨na, hna⟩ : ∃ n, n = ea.length := ⟨_, rfl⟩
  obtain ⟨nb, hnb⟩ : ∃ n, n = eb.length := ⟨_, rfl⟩
  rw [← hna] at HA KA KC KD ⊢
  rw [← hnb] at HB KB KC KD ⊢
  clear hna hnb
  go_enter Tryd.func3, Tryd.ntmps3
  go_upto_region 3 with (go_at_call 5; refine (law_landed _).mono ?_; rintro e w' ⟨rfl, rfl⟩)
  refine name_world ?_
  intro w0 hw0
  have x3 : Bx w0 W.heap.size 24 #[.string ta, .int .i64 ra, .slice aa na ca] := by rw [hw0]; exact ((Bx.new _ _ _).alloc _).alloc _
  have x4 : Bx w0 (W.heap.size + 1) 24 #[.string tb, .int .i64 rb, .slice ab nb cb] := by rw [hw0]; exact (Bx.at _ (by simp)).alloc _
  have x5 : Bx w0 (W.heap.size + 2) 3 #[.int .i64 f] := by rw [hw0]; exact Bx.at _ (by simp)
  have B : Below W.heap.size W w0 := by rw [hw0]; exact bnew (bnew (bnew (Below.refl _ W)))
  clear hw0
  obtain ⟨q3, f3, l3⟩ := x3.all
  obtain ⟨q4, f4, l4⟩ := x4.all
  go_wp2_with fail
  refine (KC.out _ (HA.out.keep B) (HB.out.keep B)).mono ?_
  rintro e w1 ⟨v1, rfl, o1, hb⟩
  clear q3 f3 l3 q4 f4 l4
  replace x3 := x3.keep hb
  replace x4 := x4.keep hb
  replace x5 := x5.keep hb
  replace B := bcall B hb
  clear hb
  obtain ⟨q3, f3, l3⟩ := x3.all
  obtain ⟨q4, f4, l4⟩ := x4.all
  go_wp2_with fail
  refine (KA.out _ (HA.out.keep B)).mono ?_
  rintro e w2 ⟨rfl, hb⟩
  clear q3 f3 l3 q4 f4 l4
  replace o1 := o1.below hb
  replace x3 := x3.keep hb
  replace x4 := x4.keep hb
  replace x5 := x5.keep hb
  replace B := bcall B hb
  clear hb
  obtain ⟨q3, f3, l3⟩ := x3.all
  obtain ⟨q4, f4, l4⟩ := x4.all
  go_wp2_with fail
  refine (KB.out _ (HB.out.keep B)).mono ?_
  rintro e w3 ⟨rfl, hb⟩
  clear q3 f3 l3 q4 f4 l4
  replace o1 := o1.below hb
  replace x3 := x3.keep hb
  replace x4 := x4.keep hb
  replace x5 := x5.keep hb
  replace B := bcall B hb
  clear hb
  obtain ⟨q3, f3, l3⟩ := x3.all
  obtain ⟨q4, f4, l4⟩ := x4.all
  go_wp2_with fail
  refine (KD.out _ (HA.out.keep B) (HB.out.keep B)).mono ?_
  rintro e w4 ⟨v2, rfl, o2, hb⟩
  clear q3 f3 l3 q4 f4 l4
  replace x3 := x3.keep hb
  replace x4 := x4.keep hb
  replace x5 := x5.keep hb
  replace o1 := o1.below hb
  replace B := bcall B hb
  clear hb
  go_wp2_with fail
  refine (slices_EqualRg _ o1 o2).mono ?_
  rintro e w5 ⟨rfl, hb⟩
  replace x3 := x3.keep hb
  replace x4 := x4.keep hb
  replace x5 := x5.keep hb
  replace o1 := o1.below hb
  replace B := bcall B hb
  clear hb o2
  obtain ⟨q5, f5, l5⟩ := x5.all
  by_cases hf0 : f < 0
  · go_wp2_with fail
    go_ret
    exact ⟨rfl, B⟩
  have kf : decide (f < 0) = false := decide_eq_false hf0
  go_wp2_with fail
  refine (contains_differ f _ o1 x5).mono ?_
  rintro e w6 ⟨rfl, hb⟩
  cases hany : CM.any (inRg f)
  · clear q5 f5 l5
    replace x3 := x3.keep hb
    replace x4 := x4.keep hb
    replace x5 := x5.keep hb
    replace B := bcall B hb
    clear hb o1
    have hal := KT.out (by omega) hany
    obtain ⟨e1, r1, y1, s1, g1, h1, er1, hf1, hc1'⟩ := atR_form ea f
    obtain ⟨e2, r2, y2, s2, g2, h2, er2, hf2, hc2'⟩ := atR_form eb f
    rw [alike_prog Oa.out Ob.out hc1' hc2', Bool.and_eq_true, Bool.and_eq_true] at hal
    obtain ⟨ha1, -, ha3⟩ := hal
    obtain rfl : er1 = er2 := by simpa using ha1
    have heq : ∀ w, (Op.equalIn 10000 39 (.agg #[.int .i64 0, .string r1, .int .i64 y1, .string s1, .int .i64 g1, .float .f32 h1]) (.agg #[.int .i64 0, .string r2, .int .i64 y2, .string s2, .int .i64 g2, .float .f32 h2])).run Tryd.prog w = .ok true w := fun w => by rw [← ha3]; exact run_eq_shot0 y1 y2 g1 g2 r1 r2 s1 s2 h1 h2 w
    have Hf1 := Lib.hid hf1
    have Hf2 := Lib.hid hf2
    clear hf1 hf2 hc1' hc2' ha1 ha3 hany KT
    obtain ⟨q3, f3, l3⟩ := x3.all
    obtain ⟨q5, f5, l5⟩ := x5.all
    go_wp2_with fail
    refine (ref_At ta ra _ ea f _ (HA.out.keep B) Oa.out (by omega)).mono ?_
    rintro e w7 ⟨rfl, hb⟩
    rw [Hf1.out]
    clear q3 f3 l3 q5 f5 l5
    replace x4 := x4.keep hb
    replace x5 := x5.keep hb
    replace B := bcall B hb
    clear hb x3
    obtain ⟨q4, f4, l4⟩ := x4.all
    obtain ⟨q5, f5, l5⟩ := x5.all
    go_wp2_with fail
    refine nm_call ?_
    intro w8 hw8
    have x10 : Bx w8 w7.heap.size 39 #[.int .i64 e1, .string r1, .int .i64 y1, .string s1, .int .i64 g1, .float .f32 h1] := by rw [hw8]; exact Bx.new _ _ _
    have hb2 := below_eq hw8
    have B2 := bcall B hb2
    clear hw8 q4 f4 l4 q5 f5 l5
    refine (ref_At tb rb _ eb f _ (HB.out.keep B2) Ob.out (by omega)).mono ?_
    rintro e w9 ⟨rfl, hb3⟩
    rw [Hf2.out]
    replace x10 := x10.keep hb3
    replace B2 := bcall B2 hb3
    have l89 : w7.heap.size < w9.heap.size := x10.lt
    have lB := B.size
    clear hb2 hb3 x4 x5
    obtain ⟨q10, f10, l10⟩ := x10.all
    go_upto_region 16 with fail
    refine name_world ?_
    intro wx hwx
    have x11 : Bx wx w9.heap.size 39 #[.int .i64 0, .string r2, .int .i64 y2, .string s2, .int .i64 g2, .float .f32 h2] := by rw [hwx]; exact Bx.at _ (by simp [World.setCell])
    have y10 : Bx wx w7.heap.size 39 #[.int .i64 0, .string r1, .int .i64 y1, .string s1, .int .i64 g1, .float .f32 h1] := by rw [hwx]; first | exact (x10.set 0 _).alloc _ | exact ((x10.alloc _).set 0 _)
    have Bx3 : Below W.heap.size W wx := by rw [hwx]; exact bnew (bput (by omega) B2)
    clear hwx x10 q10 f10 l10 B2 B
    obtain ⟨q10, f10, l10⟩ := y10.all
    obtain ⟨q11, f11, l11⟩ := x11.all
    go_wp2_with fail
    go_ret
    exact ⟨rfl, Bx3⟩
  · replace B := bcall B hb
    clear hb
    go_wp2_with fail
    go_ret
    exact ⟨rfl, B⟩

theorem law_Differ (ta : ByteArray) (ra : Int) (va : Value) (ea : List Ev) (tb : ByteArray) (rb : Int) (vb : Value) (eb : List Ev) (f : Int) (W : World) (ha : SlE W va ea) (hb : SlE W vb eb) :
    Calls Tryd.prog 3 #[.agg #[.string ta, .int .i64 ra, va], .agg #[.string tb, .int .i64 rb, vb], .int .i64 f] W fun e w' => e = .returned (.bool true) ∧ Below W.heap.size W w' := by
  by_cases oka : editsErr ta ra ea = 0
  · by_cases okb : editsErr tb rb eb = 0
    · exact law_Differ_c ta ra va ea tb rb vb eb f W ha hb oka okb
    · exact law_Differ_b ta ra va ea tb rb vb eb f W ha hb oka okb
  · exact law_Differ_a ta ra va ea tb rb vb eb f W ha hb oka
end Go.Proofs.YtfkiljhjiogdlaaDoor
