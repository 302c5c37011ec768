/- dyeref1.Zebra. -/
import Derived.Test.YtoffnmpnhddaiaaColC
import Derived.Test.YtoffnmpnhddaiaaCol5
import Derived.Test.YtoffnmpnhddaiaaMade
import Derived.Test.YtoffnmpnhddaiaaFst
namespace Go.Proofs.Ytoffnmpnhddaiaa
open Go.RowKit

theorem zebra_makes (x y wd : Int) (w h b o n c wa wb_ wc lv pf pw pv pd : Nat) (Tw T1 T2 : TypeId) (xs : List Nat) (W : World) (x1 : -3900000 ≤ x) (x2 : x ≤ 3900000) (y1 : -3900000 ≤ y) (y2 : y ≤ 3900000) (hw1 : 1 ≤ w) (hw2 : w ≤ 256) (hh1 : 1 ≤ h) (hh2 : h ≤ 256) (hd1 : 1 ≤ wd) (hd2 : wd ≤ 64)
    (hn : (n : Int) = 4 * w * h) (hnc : n ≤ c) (hxs : xs.length = n) (hrd : Rd W b o xs)
    (hf : Bx W pf 26 #[.int .i64 x, .int .i64 y, .int .i64 w, .int .i64 h, .slice (some ⟨b, o, none⟩) n c]) (hpw : Bx W pw Tw #[.float .f32 wa, .float .f32 wb_, .float .f32 wc]) (hv : Bx W pv T1 #[.float .f32 lv]) (hd : Bx W pd T2 #[.int .i64 wd]) :
    Makes W 122 #[.pointer (some ⟨pf, 0, none⟩), .pointer (some ⟨pw, 0, none⟩), .pointer (some ⟨pv, 0, none⟩), .pointer (some ⟨pd, 0, none⟩)] x y w h (zebM x y w wd lv wa wb_ wc xs) :=
  ⟨fun _ _ => call_enter Try.func122 (by kernel_rfl) (by kernel_rfl) _ _, fun i j u hi hj hu => by
    have hpn : pixNo x y w h (x + i) (y + j) = j * w + i := pixNo_at x y w h i j hi hj
    have h1 := ref_Zebra1 x y w h (x + i) (y + j) wd b o n c wa wb_ wc lv pf pw pv pd Tw T1 T2 xs (fun k => xs.getD (4 * (j * w + i) + k) 0) u (by omega) (by omega) (by omega) (by omega) (by omega) (by omega) (by omega) (by omega) (by omega) (by omega) (by omega) (by omega) hd1 hd2 hn hnc hxs (hrd.below hu hrd.lt) (by rw [hpn])
      (hf.below hu hf.lt) (hpw.below hu hpw.lt) (hv.below hu hv.lt) (hd.below hu hd.lt)
    have h2 : ∀ c, zebM x y w wd lv wa wb_ wc xs (j * w + i) c = zebP (geB (lumaV wa wb_ wc fun k => xs.getD (4 * (j * w + i) + k) 0) lv) ((x + i + (y + j)) / wd) (fun k => xs.getD (4 * (j * w + i) + k) 0) c := by
      intro c
      unfold zebM
      rw [pix_mod hi, pix_div hi]
    rw [h2, h2, h2, h2]
    exact h1⟩

/-- The errors of Zebra's arguments. -/
def zebErrs (wa wb_ wc lv : Nat) (wd : Int) : List Int := [whenV (!isNum wa || (!isNum wb_ || !isNum wc)) 2, whenV (!isNum lv) 2, whenV (decide (wd < 1) || decide (64 < wd)) 3]

set_option maxRecDepth 100000 in
set_option maxHeartbeats 2000000 in
theorem ref_Zebra_b1 (x y wd : Int) (w h N b o c wa wb_ wc lv : Nat) (e0 : Int) (W : World) (hne : e0 ≠ 0) (hfe : firstL (zebErrs wa wb_ wc lv wd) = e0) (hd : wd < 1) :
    Calls Try.prog 57 #[.agg #[.int .i64 x, .int .i64 y, .int .i64 w, .int .i64 h, .slice (some ⟨b, o, none⟩) N c], .agg #[.float .f32 wa, .float .f32 wb_, .float .f32 wc], .float .f32 lv, .int .i64 wd] W fun e w' =>
      e = .returned (.tuple #[.agg #[.int .i64 0, .int .i64 0, .int .i64 0, .int .i64 0, .slice none 0 0], .int .i64 e0]) ∧ Below W.heap.size W w' := by
  have hne2 : (e0 != 0) = true := by simpa using hne
  have hd0 : decide (wd < 1) = true := by simpa using hd
  have Hfe := Lib.hid (show firstL [whenV (!isNum wa || (!isNum wb_ || !isNum wc)) 2, whenV (!isNum lv) 2, whenV true 3] = e0 from by have := hfe; simp only [zebErrs, hd0, Bool.or_true, Bool.true_or, Bool.or_false, Bool.or_self] at this; exact this)
  clear hfe hne hd0
  go_enter Try.func57, Try.ntmps57
  go_upto_region 1 with fail
  refine name_world ?_
  intro wb hwb
  have z4 : Bx wb W.heap.size 26 #[.int .i64 x, .int .i64 y, .int .i64 w, .int .i64 h, .slice (some ⟨b, o, none⟩) N c] := by rw [hwb]; exact Bx.alloc (Bx.alloc (Bx.alloc (Bx.alloc (Bx.new _ _ _) _) _) _) _
  have z5 : Bx wb (W.heap.size + 1) 75 #[.float .f32 wa, .float .f32 wb_, .float .f32 wc] := by rw [hwb]; exact Bx.alloc (Bx.alloc (Bx.alloc (Bx.at _ (by simp)) _) _) _
  have z6 : Bx wb (W.heap.size + 1 + 1) 33 #[.float .f32 lv] := by rw [hwb]; exact Bx.alloc (Bx.alloc (Bx.at _ (by simp)) _) _
  have z7 : Bx wb (W.heap.size + 1 + 1 + 1) 3 #[.int .i64 wd] := by rw [hwb]; exact Bx.alloc (Bx.at _ (by simp)) _
  have z8 : Bx wb (W.heap.size + 1 + 1 + 1 + 1) 26 #[.int .i64 0, .int .i64 0, .int .i64 0, .int .i64 0, .slice none 0 0] := by rw [hwb]; exact Bx.at _ (by simp)
  have B0 : Below W.heap.size W wb := by rw [hwb]; exact bnew (bnew (bnew (bnew (bnew (Below.refl _ W)))))
  clear hwb
  obtain ⟨q5, f5, l5⟩ := z5.all
  obtain ⟨q6, f6, l6⟩ := z6.all
  obtain ⟨q7, f7, l7⟩ := z7.all
  have rd5 : Rd wb (W.heap.size + 1) 0 [wa, wb_, wc] := by
    refine ⟨z5.lt, fun k hk => ?_⟩
    rw [Nat.zero_add, z5.all.1 k]
    match k, hk with
    | 0, _ => rfl
    | 1, _ => rfl
    | 2, _ => rfl
  refine wp_region_tail (fun z : BW wb.heap.size wb => z.w) 15 (by kernel_rfl) (by kernel_rfl) (BW.start _ _) rfl ?_
  simp only [List.take_succ_cons, List.take_zero, List.drop_succ_cons, List.drop_zero]
  repeat (go_big_quiet_step (first
    | (go_at_call 118; exact BW.call (Nat.le_refl _) _ (ref_Numbers [wa, wb_, wc] _ 3 3 _ rfl (by omega) (rd5.keep (BW.below _))))
    | (go_at_call 114; exact BW.call (Nat.le_refl _) _ (ref_IsNumber _ _))
    | (go_at_call 107; exact BW.call_same _ (ref_When _ _ _))))
  refine wpQuiet_nil ?_
  intro z
  have y4 := z4.keep z.below
  have y5 := z5.keep z.below
  have y6 := z6.keep z.below
  have y7 := z7.keep z.below
  have y8 := z8.keep z.below
  have B1 := bcall B0 z.below
  clear z4 z5 z6 z7 z8 B0 rd5
  clear q5 f5 l5 q6 f6 l6 q7 f7 l7
  generalize z.w = w1 at *
  clear z
  go_wp2_with fail
  refine (ref_FirstL [whenV (!isNum wa || (!isNum wb_ || !isNum wc)) 2, whenV (!isNum lv) 2, whenV true 3] _ 3 _ _ _ rfl (by omega) (Bx.new _ _ _)).mono ?_
  rw [Hfe.out]
  rintro e w2 ⟨rfl, hb2⟩
  have z4 := (y4.alloc _).keep hb2
  have z5 := (y5.alloc _).keep hb2
  have z6 := (y6.alloc _).keep hb2
  have z7 := (y7.alloc _).keep hb2
  have z8 := (y8.alloc _).keep hb2
  have B2 := bcall (bnew B1) hb2
  clear y4 y5 y6 y7 y8 B1 hb2
  obtain ⟨q8, f8, l8⟩ := z8.all
  go_wp2_with fail
  have yz := (set5 z8 (.int .i64 0) (.int .i64 0) (.int .i64 0) (.int .i64 0) (.slice none 0 0)).1.all.1
  refine bodyPost_ret (v := .tuple #[.agg #[.int .i64 0, .int .i64 0, .int .i64 0, .int .i64 0, .slice none 0 0], .int .i64 e0]) (by simp [results, Try.results57, go_sem, yz]) rfl ⟨rfl, ?_⟩
  repeat (refine bput (by omega) ?_)
  exact B2

set_option maxRecDepth 100000 in
set_option maxHeartbeats 2000000 in
theorem ref_Zebra_b2 (x y wd : Int) (w h N b o c wa wb_ wc lv : Nat) (e0 : Int) (W : World) (hne : e0 ≠ 0) (hfe : firstL (zebErrs wa wb_ wc lv wd) = e0) (hd : 64 < wd) :
    Calls Try.prog 57 #[.agg #[.int .i64 x, .int .i64 y, .int .i64 w, .int .i64 h, .slice (some ⟨b, o, none⟩) N c], .agg #[.float .f32 wa, .float .f32 wb_, .float .f32 wc], .float .f32 lv, .int .i64 wd] W fun e w' =>
      e = .returned (.tuple #[.agg #[.int .i64 0, .int .i64 0, .int .i64 0, .int .i64 0, .slice none 0 0], .int .i64 e0]) ∧ Below W.heap.size W w' := by
  have hne2 : (e0 != 0) = true := by simpa using hne
  have hd0 : decide (wd < 1) = false := by simp; omega
  have hd64 : decide (64 < wd) = true := by simpa using hd
  have Hfe := Lib.hid (show firstL [whenV (!isNum wa || (!isNum wb_ || !isNum wc)) 2, whenV (!isNum lv) 2, whenV true 3] = e0 from by have := hfe; simp only [zebErrs, hd0, hd64, Bool.or_true, Bool.true_or, Bool.or_false, Bool.or_self] at this; exact this)
  clear hfe hne
  go_enter Try.func57, Try.ntmps57
  go_upto_region 1 with fail
  refine name_world ?_
  intro wb hwb
  have z4 : Bx wb W.heap.size 26 #[.int .i64 x, .int .i64 y, .int .i64 w, .int .i64 h, .slice (some ⟨b, o, none⟩) N c] := by rw [hwb]; exact Bx.alloc (Bx.alloc (Bx.alloc (Bx.alloc (Bx.new _ _ _) _) _) _) _
  have z5 : Bx wb (W.heap.size + 1) 75 #[.float .f32 wa, .float .f32 wb_, .float .f32 wc] := by rw [hwb]; exact Bx.alloc (Bx.alloc (Bx.alloc (Bx.at _ (by simp)) _) _) _
  have z6 : Bx wb (W.heap.size + 1 + 1) 33 #[.float .f32 lv] := by rw [hwb]; exact Bx.alloc (Bx.alloc (Bx.at _ (by simp)) _) _
  have z7 : Bx wb (W.heap.size + 1 + 1 + 1) 3 #[.int .i64 wd] := by rw [hwb]; exact Bx.alloc (Bx.at _ (by simp)) _
  have z8 : Bx wb (W.heap.size + 1 + 1 + 1 + 1) 26 #[.int .i64 0, .int .i64 0, .int .i64 0, .int .i64 0, .slice none 0 0] := by rw [hwb]; exact Bx.at _ (by simp)
  have B0 : Below W.heap.size W wb := by rw [hwb]; exact bnew (bnew (bnew (bnew (bnew (Below.refl _ W)))))
  clear hwb
  obtain ⟨q5, f5, l5⟩ := z5.all
  obtain ⟨q6, f6, l6⟩ := z6.all
  obtain ⟨q7, f7, l7⟩ := z7.all
  have rd5 : Rd wb (W.heap.size + 1) 0 [wa, wb_, wc] := by
    refine ⟨z5.lt, fun k hk => ?_⟩
    rw [Nat.zero_add, z5.all.1 k]
    match k, hk with
    | 0, _ => rfl
    | 1, _ => rfl
    | 2, _ => rfl
  refine wp_region_tail (fun z : BW wb.heap.size wb => z.w) 15 (by kernel_rfl) (by kernel_rfl) (BW.start _ _) rfl ?_
  simp only [List.take_succ_cons, List.take_zero, List.drop_succ_cons, List.drop_zero]
  repeat (go_big_quiet_step (first
    | (go_at_call 118; exact BW.call (Nat.le_refl _) _ (ref_Numbers [wa, wb_, wc] _ 3 3 _ rfl (by omega) (rd5.keep (BW.below _))))
    | (go_at_call 114; exact BW.call (Nat.le_refl _) _ (ref_IsNumber _ _))
    | (go_at_call 107; exact BW.call_same _ (ref_When _ _ _))))
  refine wpQuiet_nil ?_
  intro z
  have y4 := z4.keep z.below
  have y5 := z5.keep z.below
  have y6 := z6.keep z.below
  have y7 := z7.keep z.below
  have y8 := z8.keep z.below
  have B1 := bcall B0 z.below
  clear z4 z5 z6 z7 z8 B0 rd5
  clear q5 f5 l5 q6 f6 l6 q7 f7 l7
  generalize z.w = w1 at *
  clear z
  go_wp2_with fail
  refine (ref_FirstL [whenV (!isNum wa || (!isNum wb_ || !isNum wc)) 2, whenV (!isNum lv) 2, whenV true 3] _ 3 _ _ _ rfl (by omega) (Bx.new _ _ _)).mono ?_
  rw [Hfe.out]
  rintro e w2 ⟨rfl, hb2⟩
  have z4 := (y4.alloc _).keep hb2
  have z5 := (y5.alloc _).keep hb2
  have z6 := (y6.alloc _).keep hb2
  have z7 := (y7.alloc _).keep hb2
  have z8 := (y8.alloc _).keep hb2
  have B2 := bcall (bnew B1) hb2
  clear y4 y5 y6 y7 y8 B1 hb2
  obtain ⟨q8, f8, l8⟩ := z8.all
  go_wp2_with fail
  have yz := (set5 z8 (.int .i64 0) (.int .i64 0) (.int .i64 0) (.int .i64 0) (.slice none 0 0)).1.all.1
  refine bodyPost_ret (v := .tuple #[.agg #[.int .i64 0, .int .i64 0, .int .i64 0, .int .i64 0, .slice none 0 0], .int .i64 e0]) (by simp [results, Try.results57, go_sem, yz]) rfl ⟨rfl, ?_⟩
  repeat (refine bput (by omega) ?_)
  exact B2

set_option maxRecDepth 100000 in
set_option maxHeartbeats 2000000 in
theorem ref_Zebra_b3 (x y wd : Int) (w h N b o c wa wb_ wc lv : Nat) (e0 : Int) (W : World) (hne : e0 ≠ 0) (hfe : firstL (zebErrs wa wb_ wc lv wd) = e0) (hd1 : 1 ≤ wd) (hd2 : wd ≤ 64) :
    Calls Try.prog 57 #[.agg #[.int .i64 x, .int .i64 y, .int .i64 w, .int .i64 h, .slice (some ⟨b, o, none⟩) N c], .agg #[.float .f32 wa, .float .f32 wb_, .float .f32 wc], .float .f32 lv, .int .i64 wd] W fun e w' =>
      e = .returned (.tuple #[.agg #[.int .i64 0, .int .i64 0, .int .i64 0, .int .i64 0, .slice none 0 0], .int .i64 e0]) ∧ Below W.heap.size W w' := by
  have hne2 : (e0 != 0) = true := by simpa using hne
  have hd0 : decide (wd < 1) = false := by simp; omega
  have hd64 : decide (64 < wd) = false := by simp; omega
  have Hfe := Lib.hid (show firstL [whenV (!isNum wa || (!isNum wb_ || !isNum wc)) 2, whenV (!isNum lv) 2, whenV false 3] = e0 from by have := hfe; simp only [zebErrs, hd0, hd64, Bool.or_true, Bool.true_or, Bool.or_false, Bool.or_self] at this; exact this)
  clear hfe hne
  go_enter Try.func57, Try.ntmps57
  go_upto_region 1 with fail
  refine name_world ?_
  intro wb hwb
  have z4 : Bx wb W.heap.size 26 #[.int .i64 x, .int .i64 y, .int .i64 w, .int .i64 h, .slice (some ⟨b, o, none⟩) N c] := by rw [hwb]; exact Bx.alloc (Bx.alloc (Bx.alloc (Bx.alloc (Bx.new _ _ _) _) _) _) _
  have z5 : Bx wb (W.heap.size + 1) 75 #[.float .f32 wa, .float .f32 wb_, .float .f32 wc] := by rw [hwb]; exact Bx.alloc (Bx.alloc (Bx.alloc (Bx.at _ (by simp)) _) _) _
  have z6 : Bx wb (W.heap.size + 1 + 1) 33 #[.float .f32 lv] := by rw [hwb]; exact Bx.alloc (Bx.alloc (Bx.at _ (by simp)) _) _
  have z7 : Bx wb (W.heap.size + 1 + 1 + 1) 3 #[.int .i64 wd] := by rw [hwb]; exact Bx.alloc (Bx.at _ (by simp)) _
  have z8 : Bx wb (W.heap.size + 1 + 1 + 1 + 1) 26 #[.int .i64 0, .int .i64 0, .int .i64 0, .int .i64 0, .slice none 0 0] := by rw [hwb]; exact Bx.at _ (by simp)
  have B0 : Below W.heap.size W wb := by rw [hwb]; exact bnew (bnew (bnew (bnew (bnew (Below.refl _ W)))))
  clear hwb
  obtain ⟨q5, f5, l5⟩ := z5.all
  obtain ⟨q6, f6, l6⟩ := z6.all
  obtain ⟨q7, f7, l7⟩ := z7.all
  have rd5 : Rd wb (W.heap.size + 1) 0 [wa, wb_, wc] := by
    refine ⟨z5.lt, fun k hk => ?_⟩
    rw [Nat.zero_add, z5.all.1 k]
    match k, hk with
    | 0, _ => rfl
    | 1, _ => rfl
    | 2, _ => rfl
  refine wp_region_tail (fun z : BW wb.heap.size wb => z.w) 15 (by kernel_rfl) (by kernel_rfl) (BW.start _ _) rfl ?_
  simp only [List.take_succ_cons, List.take_zero, List.drop_succ_cons, List.drop_zero]
  repeat (go_big_quiet_step (first
    | (go_at_call 118; exact BW.call (Nat.le_refl _) _ (ref_Numbers [wa, wb_, wc] _ 3 3 _ rfl (by omega) (rd5.keep (BW.below _))))
    | (go_at_call 114; exact BW.call (Nat.le_refl _) _ (ref_IsNumber _ _))
    | (go_at_call 107; exact BW.call_same _ (ref_When _ _ _))))
  refine wpQuiet_nil ?_
  intro z
  have y4 := z4.keep z.below
  have y5 := z5.keep z.below
  have y6 := z6.keep z.below
  have y7 := z7.keep z.below
  have y8 := z8.keep z.below
  have B1 := bcall B0 z.below
  clear z4 z5 z6 z7 z8 B0 rd5
  clear q5 f5 l5 q6 f6 l6 q7 f7 l7
  generalize z.w = w1 at *
  clear z
  go_wp2_with fail
  refine (ref_FirstL [whenV (!isNum wa || (!isNum wb_ || !isNum wc)) 2, whenV (!isNum lv) 2, whenV false 3] _ 3 _ _ _ rfl (by omega) (Bx.new _ _ _)).mono ?_
  rw [Hfe.out]
  rintro e w2 ⟨rfl, hb2⟩
  have z4 := (y4.alloc _).keep hb2
  have z5 := (y5.alloc _).keep hb2
  have z6 := (y6.alloc _).keep hb2
  have z7 := (y7.alloc _).keep hb2
  have z8 := (y8.alloc _).keep hb2
  have B2 := bcall (bnew B1) hb2
  clear y4 y5 y6 y7 y8 B1 hb2
  obtain ⟨q8, f8, l8⟩ := z8.all
  go_wp2_with fail
  have yz := (set5 z8 (.int .i64 0) (.int .i64 0) (.int .i64 0) (.int .i64 0) (.slice none 0 0)).1.all.1
  refine bodyPost_ret (v := .tuple #[.agg #[.int .i64 0, .int .i64 0, .int .i64 0, .int .i64 0, .slice none 0 0], .int .i64 e0]) (by simp [results, Try.results57, go_sem, yz]) rfl ⟨rfl, ?_⟩
  repeat (refine bput (by omega) ?_)
  exact B2

set_option maxRecDepth 100000 in
set_option maxHeartbeats 2000000 in
theorem ref_Zebra_ok (x y wd : Int) (w h N b o c wa wb_ wc lv : Nat) (M : Nat) (xs : List Nat) (W : World) (x1 : -3900000 ≤ x) (x2 : x ≤ 3900000) (y1 : -3900000 ≤ y) (y2 : y ≤ 3900000) (hw1 : 0 < w) (hw : w ≤ 256) (hh1 : 0 < h) (hh : h ≤ 256) (hM : M = w * h) (hM2 : M ≤ 65536) (hN : N = 4 * M) (hnc : N ≤ c) (hxs : xs.length = N) (hrd : Rd W b o xs) (hfe : firstL (zebErrs wa wb_ wc lv wd) = 0) (hd1 : 1 ≤ wd) (hd2 : wd ≤ 64) :
    Calls Try.prog 57 #[.agg #[.int .i64 x, .int .i64 y, .int .i64 w, .int .i64 h, .slice (some ⟨b, o, none⟩) N c], .agg #[.float .f32 wa, .float .f32 wb_, .float .f32 wc], .float .f32 lv, .int .i64 wd] W fun e w' =>
      ∃ g c', e = .returned (.tuple #[.agg #[.int .i64 x, .int .i64 y, .int .i64 w, .int .i64 h, .slice (some ⟨g, 0, none⟩) (4 * M) c'], .int .i64 0]) ∧ 4 * M ≤ c' ∧ W.heap.size ≤ g ∧ Rd w' g 0 (madeL (zebM x y w wd lv wa wb_ wc xs) (4 * M)) ∧ Below W.heap.size W w' := by
  have hd0 : decide (wd < 1) = false := by simp; omega
  have hd64 : decide (64 < wd) = false := by simp; omega
  have Hfe := Lib.hid (show firstL [whenV (!isNum wa || (!isNum wb_ || !isNum wc)) 2, whenV (!isNum lv) 2, whenV false 3] = 0 from by have := hfe; simp only [zebErrs, hd0, hd64, Bool.or_self] at this; exact this)
  have hNw : (N : Int) = 4 * w * h := by subst hN; subst hM; push_cast; rw [Int.mul_assoc]
  have Hh := Lib.hid (And.intro hM (And.intro hNw hxs))
  clear hfe hM hN hxs hNw
  go_enter Try.func57, Try.ntmps57
  go_upto_region 1 with fail
  refine name_world ?_
  intro wb hwb
  have z4 : Bx wb W.heap.size 26 #[.int .i64 x, .int .i64 y, .int .i64 w, .int .i64 h, .slice (some ⟨b, o, none⟩) N c] := by rw [hwb]; exact Bx.alloc (Bx.alloc (Bx.alloc (Bx.alloc (Bx.new _ _ _) _) _) _) _
  have z5 : Bx wb (W.heap.size + 1) 75 #[.float .f32 wa, .float .f32 wb_, .float .f32 wc] := by rw [hwb]; exact Bx.alloc (Bx.alloc (Bx.alloc (Bx.at _ (by simp)) _) _) _
  have z6 : Bx wb (W.heap.size + 1 + 1) 33 #[.float .f32 lv] := by rw [hwb]; exact Bx.alloc (Bx.alloc (Bx.at _ (by simp)) _) _
  have z7 : Bx wb (W.heap.size + 1 + 1 + 1) 3 #[.int .i64 wd] := by rw [hwb]; exact Bx.alloc (Bx.at _ (by simp)) _
  have z8 : Bx wb (W.heap.size + 1 + 1 + 1 + 1) 26 #[.int .i64 0, .int .i64 0, .int .i64 0, .int .i64 0, .slice none 0 0] := by rw [hwb]; exact Bx.at _ (by simp)
  have B0 : Below W.heap.size W wb := by rw [hwb]; exact bnew (bnew (bnew (bnew (bnew (Below.refl _ W)))))
  clear hwb
  obtain ⟨q5, f5, l5⟩ := z5.all
  obtain ⟨q6, f6, l6⟩ := z6.all
  obtain ⟨q7, f7, l7⟩ := z7.all
  have rd5 : Rd wb (W.heap.size + 1) 0 [wa, wb_, wc] := by
    refine ⟨z5.lt, fun k hk => ?_⟩
    rw [Nat.zero_add, z5.all.1 k]
    match k, hk with
    | 0, _ => rfl
    | 1, _ => rfl
    | 2, _ => rfl
  refine wp_region_tail (fun z : BW wb.heap.size wb => z.w) 15 (by kernel_rfl) (by kernel_rfl) (BW.start _ _) rfl ?_
  simp only [List.take_succ_cons, List.take_zero, List.drop_succ_cons, List.drop_zero]
  repeat (go_big_quiet_step (first
    | (go_at_call 118; exact BW.call (Nat.le_refl _) _ (ref_Numbers [wa, wb_, wc] _ 3 3 _ rfl (by omega) (rd5.keep (BW.below _))))
    | (go_at_call 114; exact BW.call (Nat.le_refl _) _ (ref_IsNumber _ _))
    | (go_at_call 107; exact BW.call_same _ (ref_When _ _ _))))
  refine wpQuiet_nil ?_
  intro z
  have y4 := z4.keep z.below
  have y5 := z5.keep z.below
  have y6 := z6.keep z.below
  have y7 := z7.keep z.below
  have y8 := z8.keep z.below
  have B1 := bcall B0 z.below
  clear z4 z5 z6 z7 z8 B0 rd5
  clear q5 f5 l5 q6 f6 l6 q7 f7 l7
  generalize z.w = w1 at *
  clear z
  go_wp2_with fail
  refine (ref_FirstL [whenV (!isNum wa || (!isNum wb_ || !isNum wc)) 2, whenV (!isNum lv) 2, whenV false 3] _ 3 _ _ _ rfl (by omega) (Bx.new _ _ _)).mono ?_
  rw [Hfe.out]
  rintro e w2 ⟨rfl, hb2⟩
  have z4 := (y4.alloc _).keep hb2
  have z5 := (y5.alloc _).keep hb2
  have z6 := (y6.alloc _).keep hb2
  have z7 := (y7.alloc _).keep hb2
  have z8 := (y8.alloc _).keep hb2
  have B2 := bcall (bnew B1) hb2
  clear y4 y5 y6 y7 y8 B1 hb2
  obtain ⟨q4, f4, l4⟩ := z4.all
  go_wp2_with fail
  refine (ref_Made x y w h M _ _ (zebM x y w wd lv wa wb_ wc xs) _ Hh.out.1 hM2 (by omega) (by omega) (by omega) (by omega) hw1 hw hh1 hh (zebra_makes x y wd w h b o N c wa wb_ wc lv _ _ _ _ _ _ _ xs _ x1 x2 y1 y2 hw1 hw hh1 hh hd1 hd2 Hh.out.2.1 hnc Hh.out.2.2 (hrd.keep B2) z4 z5 z6 z7)).mono ?_
  rintro e w4 ⟨g, c', rfl, hc', hg, hrow, hb4⟩
  have y8 := z8.keep hb4
  have B4 := bcall B2 hb4
  have hs3 := B2.size
  have l8' := z8.lt
  clear z4 z5 z6 z7 z8 B2 hb4 q4 f4 l4
  obtain ⟨q8, f8, l8⟩ := y8.all
  go_wp2_with fail
  refine bodyPost_ret (v := .tuple #[.agg #[.int .i64 x, .int .i64 y, .int .i64 w, .int .i64 h, .slice (some ⟨g, 0, none⟩) (4 * M) c'], .int .i64 0]) (by simp [results, Try.results57, go_sem, q8]) rfl ⟨g, c', rfl, hc', by omega, ?_, ?_⟩
  · exact Only.rd (b := W.heap.size + 1 + 1 + 1 + 1) ((((((Only.refl _ _).set _ _).set _ _).set _ _).set _ _).set _ _) (by omega) hrow
  · repeat (refine bput (by omega) ?_)
    exact B4
end Go.Proofs.Ytoffnmpnhddaiaa
