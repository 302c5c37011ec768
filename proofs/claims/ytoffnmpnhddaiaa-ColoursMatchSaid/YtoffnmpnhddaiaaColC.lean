/- scope.Zebra of a right frame. -/
import Derived.Test.YtoffnmpnhddaiaaCol4
import Derived.Test.YtoffnmpnhddaiaaCol6
import Derived.Test.YtoffnmpnhddaiaaNum2
namespace Go.Proofs.Ytoffnmpnhddaiaa
open Go.RowKit

/-- Zebra's pixel m. -/
def zebM (x y : Int) (w : Nat) (wd : Int) (lv wa wb_ wc : Nat) (xs : List Nat) (m c : Nat) : Nat :=
  zebP (geB (lumaV wa wb_ wc fun k => xs.getD (4 * m + k) 0) lv) ((x + ((m % w : Nat) : Int) + (y + ((m / w : Nat) : Int))) / wd) (fun k => xs.getD (4 * m + k) 0) c
theorem pix_mod {i j w : Nat} (hi : i < w) : (j * w + i) % w = i := by rw [Nat.mul_comm, Nat.mul_add_mod, Nat.mod_eq_of_lt hi]
theorem pix_div {i j w : Nat} (hi : i < w) : (j * w + i) / w = j := by
  rw [Nat.mul_comm, Nat.mul_add_div (by omega), Nat.div_eq_of_lt hi, Nat.add_zero]

theorem zebra_paints (x y wd : Int) (w h wa wb_ wc lv pv pw : Nat) (T1 T2 : TypeId) (xs : List Nat) (W : World) (x1 : -3900000 ≤ x) (x2 : x ≤ 3900000) (y1 : -3900000 ≤ y) (y2 : y ≤ 3900000) (hw : w ≤ 256) (hh : h ≤ 256) (hw1 : 1 ≤ wd) (hw2 : wd ≤ 64)
    (hv : Bx W pv T1 #[.float .f32 lv]) (hp : Bx W pw T2 #[.int .i64 wd]) :
    Paints W 121 #[.pointer (some ⟨pv, 0, none⟩), .pointer (some ⟨pw, 0, none⟩)] x y w h wa wb_ wc xs (zebM x y w wd lv wa wb_ wc xs) :=
  ⟨fun _ _ => call_enter Try.func121 (by kernel_rfl) (by kernel_rfl) _ _, fun i j X Y u hi hj hX hY hu => by
    have h1 := scope_Zebra1 X Y wd (lumaV wa wb_ wc fun k => xs.getD (4 * (j * w + i) + k) 0) lv pv pw T1 T2 (fun k => xs.getD (4 * (j * w + i) + k) 0) u (by omega) (by omega) (by omega) (by omega) hw1 hw2 (hv.below hu hv.lt) (hp.below hu hp.lt)
    have h2 : ∀ c, zebM x y w wd lv wa wb_ wc xs (j * w + i) c = zebP (geB (lumaV wa wb_ wc fun k => xs.getD (4 * (j * w + i) + k) 0) lv) ((X + Y) / wd) (fun k => xs.getD (4 * (j * w + i) + k) 0) c := by
      intro c
      unfold zebM
      rw [pix_mod hi, pix_div hi, hX, hY]
    rw [h2, h2, h2, h2]
    exact h1⟩

set_option maxRecDepth 100000 in
set_option maxHeartbeats 2000000 in
theorem scope_Zebra_w (x y wd : Int) (w h M N b o c wa wb_ wc lv : Nat) (xs : List Nat) (W : World) (hM2 : N ≤ 262144) (hck : checkFrame x y w h N = 0) (hwn : [wa, wb_, wc].all isNum = false) :
    Calls Try.prog 56 #[.agg #[.int .i64 x, .int .i64 y, .int .i64 w, .int .i64 h, .slice (some ⟨b, o, none⟩) N c], .agg #[.float .f32 wa, .float .f32 wb_, .float .f32 wc], .float .f32 lv, .int .i64 wd] W fun e w' =>
      e = .returned (.tuple #[.agg #[.int .i64 0, .int .i64 0, .int .i64 0, .int .i64 0, .slice none 0 0], .int .i64 2]) ∧ Below W.heap.size W w' := by
  have hNm : N ≤ maxLen := by unfold maxLen; omega
  have Hh := Lib.hid (And.intro hck hwn)
  clear hck hwn
  go_enter Try.func56, Try.ntmps56
  go_upto_region 1 with fail
  refine name_world ?_
  intro wb hwb
  have z4 : Bx wb W.heap.size 26 #[.int .i64 x, .int .i64 y, .int .i64 w, .int .i64 h, .slice (some ⟨b, o, none⟩) N c] := by rw [hwb]; exact Bx.alloc (Bx.alloc (Bx.alloc (Bx.alloc (Bx.new _ _ _) _) _) _) _
  have z5 : Bx wb (W.heap.size + 1) 75 #[.float .f32 wa, .float .f32 wb_, .float .f32 wc] := by rw [hwb]; exact Bx.alloc (Bx.alloc (Bx.alloc (Bx.at _ (by simp)) _) _) _
  have z6 : Bx wb (W.heap.size + 1 + 1) 33 #[.float .f32 lv] := by rw [hwb]; exact Bx.alloc (Bx.alloc (Bx.at _ (by simp)) _) _
  have z7 : Bx wb (W.heap.size + 1 + 1 + 1) 3 #[.int .i64 wd] := by rw [hwb]; exact Bx.alloc (Bx.at _ (by simp)) _
  have z8 : Bx wb (W.heap.size + 1 + 1 + 1 + 1) 26 #[.int .i64 0, .int .i64 0, .int .i64 0, .int .i64 0, .slice none 0 0] := by rw [hwb]; exact Bx.at _ (by simp)
  have B0 : Below W.heap.size W wb := by rw [hwb]; exact bnew (bnew (bnew (bnew (bnew (Below.refl _ W)))))
  clear hwb
  obtain ⟨q4, f4, l4⟩ := z4.all
  obtain ⟨q5, f5, l5⟩ := z5.all
  obtain ⟨q6, f6, l6⟩ := z6.all
  obtain ⟨q7, f7, l7⟩ := z7.all
  obtain ⟨q8, f8, l8⟩ := z8.all
  go_wp2_with fail
  refine (frame_Check _ _ _ _ _ _ _ _ hNm).mono ?_
  rw [Hh.out.1]
  rintro e w1 ⟨rfl, hb1⟩
  have y4 := z4.keep hb1
  have y5 := z5.keep hb1
  have y6 := z6.keep hb1
  have y7 := z7.keep hb1
  have y8 := z8.keep hb1
  have B1 := bcall B0 hb1
  clear z4 z5 z6 z7 z8 B0 hb1
  clear q4 f4 l4 q5 f5 l5 q6 f6 l6 q7 f7 l7 q8 f8 l8
  obtain ⟨q4, f4, l4⟩ := y4.all
  obtain ⟨q5, f5, l5⟩ := y5.all
  obtain ⟨q6, f6, l6⟩ := y6.all
  obtain ⟨q7, f7, l7⟩ := y7.all
  obtain ⟨q8, f8, l8⟩ := y8.all
  go_wp2_with fail
  have rd5 : Rd w1 (W.heap.size + 1) 0 [wa, wb_, wc] := by
    refine ⟨y5.lt, fun k hk => ?_⟩
    rw [Nat.zero_add, y5.all.1 k]
    match k, hk with
    | 0, _ => rfl
    | 1, _ => rfl
    | 2, _ => rfl
  refine (num_AllNumbers [wa, wb_, wc] _ 3 3 _ rfl (by omega) rd5).mono ?_
  rw [Hh.out.2]
  rintro e w2 ⟨rfl, hb2⟩
  have z4 := y4.keep hb2
  have z5 := y5.keep hb2
  have z6 := y6.keep hb2
  have z7 := y7.keep hb2
  have z8 := y8.keep hb2
  have B2 := bcall B1 hb2
  clear y4 y5 y6 y7 y8 B1 hb2 rd5
  clear q4 f4 l4 q5 f5 l5 q6 f6 l6 q7 f7 l7 q8 f8 l8
  obtain ⟨q4, f4, l4⟩ := z4.all
  obtain ⟨q5, f5, l5⟩ := z5.all
  obtain ⟨q6, f6, l6⟩ := z6.all
  obtain ⟨q7, f7, l7⟩ := z7.all
  obtain ⟨q8, f8, l8⟩ := z8.all
  go_wp2_with fail
  have yz := (set5 z8 (.int .i64 0) (.int .i64 0) (.int .i64 0) (.int .i64 0) (.slice none 0 0)).1.all.1
  refine bodyPost_ret (v := .tuple #[.agg #[.int .i64 0, .int .i64 0, .int .i64 0, .int .i64 0, .slice none 0 0], .int .i64 2]) (by simp [results, Try.results56, go_sem, yz]) rfl ⟨rfl, ?_⟩
  repeat (refine bput (by omega) ?_)
  exact B2

set_option maxRecDepth 100000 in
set_option maxHeartbeats 2000000 in
theorem scope_Zebra_l (x y wd : Int) (w h M N b o c wa wb_ wc lv : Nat) (xs : List Nat) (W : World) (hM2 : N ≤ 262144) (hck : checkFrame x y w h N = 0) (hwn : [wa, wb_, wc].all isNum = true) (hln : isNum lv = false) :
    Calls Try.prog 56 #[.agg #[.int .i64 x, .int .i64 y, .int .i64 w, .int .i64 h, .slice (some ⟨b, o, none⟩) N c], .agg #[.float .f32 wa, .float .f32 wb_, .float .f32 wc], .float .f32 lv, .int .i64 wd] W fun e w' =>
      e = .returned (.tuple #[.agg #[.int .i64 0, .int .i64 0, .int .i64 0, .int .i64 0, .slice none 0 0], .int .i64 2]) ∧ Below W.heap.size W w' := by
  have hNm : N ≤ maxLen := by unfold maxLen; omega
  have Hh := Lib.hid (And.intro hck (And.intro hwn hln))
  clear hck hwn hln
  go_enter Try.func56, Try.ntmps56
  go_upto_region 1 with fail
  refine name_world ?_
  intro wb hwb
  have z4 : Bx wb W.heap.size 26 #[.int .i64 x, .int .i64 y, .int .i64 w, .int .i64 h, .slice (some ⟨b, o, none⟩) N c] := by rw [hwb]; exact Bx.alloc (Bx.alloc (Bx.alloc (Bx.alloc (Bx.new _ _ _) _) _) _) _
  have z5 : Bx wb (W.heap.size + 1) 75 #[.float .f32 wa, .float .f32 wb_, .float .f32 wc] := by rw [hwb]; exact Bx.alloc (Bx.alloc (Bx.alloc (Bx.at _ (by simp)) _) _) _
  have z6 : Bx wb (W.heap.size + 1 + 1) 33 #[.float .f32 lv] := by rw [hwb]; exact Bx.alloc (Bx.alloc (Bx.at _ (by simp)) _) _
  have z7 : Bx wb (W.heap.size + 1 + 1 + 1) 3 #[.int .i64 wd] := by rw [hwb]; exact Bx.alloc (Bx.at _ (by simp)) _
  have z8 : Bx wb (W.heap.size + 1 + 1 + 1 + 1) 26 #[.int .i64 0, .int .i64 0, .int .i64 0, .int .i64 0, .slice none 0 0] := by rw [hwb]; exact Bx.at _ (by simp)
  have B0 : Below W.heap.size W wb := by rw [hwb]; exact bnew (bnew (bnew (bnew (bnew (Below.refl _ W)))))
  clear hwb
  obtain ⟨q4, f4, l4⟩ := z4.all
  obtain ⟨q5, f5, l5⟩ := z5.all
  obtain ⟨q6, f6, l6⟩ := z6.all
  obtain ⟨q7, f7, l7⟩ := z7.all
  obtain ⟨q8, f8, l8⟩ := z8.all
  go_wp2_with fail
  refine (frame_Check _ _ _ _ _ _ _ _ hNm).mono ?_
  rw [Hh.out.1]
  rintro e w1 ⟨rfl, hb1⟩
  have y4 := z4.keep hb1
  have y5 := z5.keep hb1
  have y6 := z6.keep hb1
  have y7 := z7.keep hb1
  have y8 := z8.keep hb1
  have B1 := bcall B0 hb1
  clear z4 z5 z6 z7 z8 B0 hb1
  clear q4 f4 l4 q5 f5 l5 q6 f6 l6 q7 f7 l7 q8 f8 l8
  obtain ⟨q4, f4, l4⟩ := y4.all
  obtain ⟨q5, f5, l5⟩ := y5.all
  obtain ⟨q6, f6, l6⟩ := y6.all
  obtain ⟨q7, f7, l7⟩ := y7.all
  obtain ⟨q8, f8, l8⟩ := y8.all
  go_wp2_with fail
  have rd5 : Rd w1 (W.heap.size + 1) 0 [wa, wb_, wc] := by
    refine ⟨y5.lt, fun k hk => ?_⟩
    rw [Nat.zero_add, y5.all.1 k]
    match k, hk with
    | 0, _ => rfl
    | 1, _ => rfl
    | 2, _ => rfl
  refine (num_AllNumbers [wa, wb_, wc] _ 3 3 _ rfl (by omega) rd5).mono ?_
  rw [Hh.out.2.1]
  rintro e w2 ⟨rfl, hb2⟩
  have z4 := y4.keep hb2
  have z5 := y5.keep hb2
  have z6 := y6.keep hb2
  have z7 := y7.keep hb2
  have z8 := y8.keep hb2
  have B2 := bcall B1 hb2
  clear y4 y5 y6 y7 y8 B1 hb2 rd5
  clear q4 f4 l4 q5 f5 l5 q6 f6 l6 q7 f7 l7 q8 f8 l8
  obtain ⟨q4, f4, l4⟩ := z4.all
  obtain ⟨q5, f5, l5⟩ := z5.all
  obtain ⟨q6, f6, l6⟩ := z6.all
  obtain ⟨q7, f7, l7⟩ := z7.all
  obtain ⟨q8, f8, l8⟩ := z8.all
  go_wp2_with fail
  refine (num_IsNumber _ _).mono ?_
  rw [Hh.out.2.2]
  rintro e w' ⟨rfl, rfl⟩
  go_wp2_with fail
  have yz := (set5 z8 (.int .i64 0) (.int .i64 0) (.int .i64 0) (.int .i64 0) (.slice none 0 0)).1.all.1
  refine bodyPost_ret (v := .tuple #[.agg #[.int .i64 0, .int .i64 0, .int .i64 0, .int .i64 0, .slice none 0 0], .int .i64 2]) (by simp [results, Try.results56, go_sem, yz]) rfl ⟨rfl, ?_⟩
  repeat (refine bput (by omega) ?_)
  exact B2

set_option maxRecDepth 100000 in
set_option maxHeartbeats 2000000 in
theorem scope_Zebra_r1 (x y wd : Int) (w h M N b o c wa wb_ wc lv : Nat) (xs : List Nat) (W : World) (hM2 : N ≤ 262144) (hck : checkFrame x y w h N = 0) (hwn : [wa, wb_, wc].all isNum = true) (hln : isNum lv = true) (hd : wd < 1) :
    Calls Try.prog 56 #[.agg #[.int .i64 x, .int .i64 y, .int .i64 w, .int .i64 h, .slice (some ⟨b, o, none⟩) N c], .agg #[.float .f32 wa, .float .f32 wb_, .float .f32 wc], .float .f32 lv, .int .i64 wd] W fun e w' =>
      e = .returned (.tuple #[.agg #[.int .i64 0, .int .i64 0, .int .i64 0, .int .i64 0, .slice none 0 0], .int .i64 3]) ∧ Below W.heap.size W w' := by
  have hNm : N ≤ maxLen := by unfold maxLen; omega
  have Hh := Lib.hid (And.intro hck (And.intro hwn hln))
  clear hck hwn hln
  go_enter Try.func56, Try.ntmps56
  go_upto_region 1 with fail
  refine name_world ?_
  intro wb hwb
  have z4 : Bx wb W.heap.size 26 #[.int .i64 x, .int .i64 y, .int .i64 w, .int .i64 h, .slice (some ⟨b, o, none⟩) N c] := by rw [hwb]; exact Bx.alloc (Bx.alloc (Bx.alloc (Bx.alloc (Bx.new _ _ _) _) _) _) _
  have z5 : Bx wb (W.heap.size + 1) 75 #[.float .f32 wa, .float .f32 wb_, .float .f32 wc] := by rw [hwb]; exact Bx.alloc (Bx.alloc (Bx.alloc (Bx.at _ (by simp)) _) _) _
  have z6 : Bx wb (W.heap.size + 1 + 1) 33 #[.float .f32 lv] := by rw [hwb]; exact Bx.alloc (Bx.alloc (Bx.at _ (by simp)) _) _
  have z7 : Bx wb (W.heap.size + 1 + 1 + 1) 3 #[.int .i64 wd] := by rw [hwb]; exact Bx.alloc (Bx.at _ (by simp)) _
  have z8 : Bx wb (W.heap.size + 1 + 1 + 1 + 1) 26 #[.int .i64 0, .int .i64 0, .int .i64 0, .int .i64 0, .slice none 0 0] := by rw [hwb]; exact Bx.at _ (by simp)
  have B0 : Below W.heap.size W wb := by rw [hwb]; exact bnew (bnew (bnew (bnew (bnew (Below.refl _ W)))))
  clear hwb
  obtain ⟨q4, f4, l4⟩ := z4.all
  obtain ⟨q5, f5, l5⟩ := z5.all
  obtain ⟨q6, f6, l6⟩ := z6.all
  obtain ⟨q7, f7, l7⟩ := z7.all
  obtain ⟨q8, f8, l8⟩ := z8.all
  go_wp2_with fail
  refine (frame_Check _ _ _ _ _ _ _ _ hNm).mono ?_
  rw [Hh.out.1]
  rintro e w1 ⟨rfl, hb1⟩
  have y4 := z4.keep hb1
  have y5 := z5.keep hb1
  have y6 := z6.keep hb1
  have y7 := z7.keep hb1
  have y8 := z8.keep hb1
  have B1 := bcall B0 hb1
  clear z4 z5 z6 z7 z8 B0 hb1
  clear q4 f4 l4 q5 f5 l5 q6 f6 l6 q7 f7 l7 q8 f8 l8
  obtain ⟨q4, f4, l4⟩ := y4.all
  obtain ⟨q5, f5, l5⟩ := y5.all
  obtain ⟨q6, f6, l6⟩ := y6.all
  obtain ⟨q7, f7, l7⟩ := y7.all
  obtain ⟨q8, f8, l8⟩ := y8.all
  go_wp2_with fail
  have rd5 : Rd w1 (W.heap.size + 1) 0 [wa, wb_, wc] := by
    refine ⟨y5.lt, fun k hk => ?_⟩
    rw [Nat.zero_add, y5.all.1 k]
    match k, hk with
    | 0, _ => rfl
    | 1, _ => rfl
    | 2, _ => rfl
  refine (num_AllNumbers [wa, wb_, wc] _ 3 3 _ rfl (by omega) rd5).mono ?_
  rw [Hh.out.2.1]
  rintro e w2 ⟨rfl, hb2⟩
  have z4 := y4.keep hb2
  have z5 := y5.keep hb2
  have z6 := y6.keep hb2
  have z7 := y7.keep hb2
  have z8 := y8.keep hb2
  have B2 := bcall B1 hb2
  clear y4 y5 y6 y7 y8 B1 hb2 rd5
  clear q4 f4 l4 q5 f5 l5 q6 f6 l6 q7 f7 l7 q8 f8 l8
  obtain ⟨q4, f4, l4⟩ := z4.all
  obtain ⟨q5, f5, l5⟩ := z5.all
  obtain ⟨q6, f6, l6⟩ := z6.all
  obtain ⟨q7, f7, l7⟩ := z7.all
  obtain ⟨q8, f8, l8⟩ := z8.all
  go_wp2_with fail
  refine (num_IsNumber _ _).mono ?_
  rw [Hh.out.2.2]
  rintro e w' ⟨rfl, rfl⟩
  go_wp2_with fail
  have yz := (set5 z8 (.int .i64 0) (.int .i64 0) (.int .i64 0) (.int .i64 0) (.slice none 0 0)).1.all.1
  refine bodyPost_ret (v := .tuple #[.agg #[.int .i64 0, .int .i64 0, .int .i64 0, .int .i64 0, .slice none 0 0], .int .i64 3]) (by simp [results, Try.results56, go_sem, yz]) rfl ⟨rfl, ?_⟩
  repeat (refine bput (by omega) ?_)
  exact B2

set_option maxRecDepth 100000 in
set_option maxHeartbeats 2000000 in
theorem scope_Zebra_r2 (x y wd : Int) (w h M N b o c wa wb_ wc lv : Nat) (xs : List Nat) (W : World) (hM2 : N ≤ 262144) (hck : checkFrame x y w h N = 0) (hwn : [wa, wb_, wc].all isNum = true) (hln : isNum lv = true) (hd : 64 < wd) :
    Calls Try.prog 56 #[.agg #[.int .i64 x, .int .i64 y, .int .i64 w, .int .i64 h, .slice (some ⟨b, o, none⟩) N c], .agg #[.float .f32 wa, .float .f32 wb_, .float .f32 wc], .float .f32 lv, .int .i64 wd] W fun e w' =>
      e = .returned (.tuple #[.agg #[.int .i64 0, .int .i64 0, .int .i64 0, .int .i64 0, .slice none 0 0], .int .i64 3]) ∧ Below W.heap.size W w' := by
  have hNm : N ≤ maxLen := by unfold maxLen; omega
  have Hh := Lib.hid (And.intro hck (And.intro hwn hln))
  clear hck hwn hln
  go_enter Try.func56, Try.ntmps56
  go_upto_region 1 with fail
  refine name_world ?_
  intro wb hwb
  have z4 : Bx wb W.heap.size 26 #[.int .i64 x, .int .i64 y, .int .i64 w, .int .i64 h, .slice (some ⟨b, o, none⟩) N c] := by rw [hwb]; exact Bx.alloc (Bx.alloc (Bx.alloc (Bx.alloc (Bx.new _ _ _) _) _) _) _
  have z5 : Bx wb (W.heap.size + 1) 75 #[.float .f32 wa, .float .f32 wb_, .float .f32 wc] := by rw [hwb]; exact Bx.alloc (Bx.alloc (Bx.alloc (Bx.at _ (by simp)) _) _) _
  have z6 : Bx wb (W.heap.size + 1 + 1) 33 #[.float .f32 lv] := by rw [hwb]; exact Bx.alloc (Bx.alloc (Bx.at _ (by simp)) _) _
  have z7 : Bx wb (W.heap.size + 1 + 1 + 1) 3 #[.int .i64 wd] := by rw [hwb]; exact Bx.alloc (Bx.at _ (by simp)) _
  have z8 : Bx wb (W.heap.size + 1 + 1 + 1 + 1) 26 #[.int .i64 0, .int .i64 0, .int .i64 0, .int .i64 0, .slice none 0 0] := by rw [hwb]; exact Bx.at _ (by simp)
  have B0 : Below W.heap.size W wb := by rw [hwb]; exact bnew (bnew (bnew (bnew (bnew (Below.refl _ W)))))
  clear hwb
  obtain ⟨q4, f4, l4⟩ := z4.all
  obtain ⟨q5, f5, l5⟩ := z5.all
  obtain ⟨q6, f6, l6⟩ := z6.all
  obtain ⟨q7, f7, l7⟩ := z7.all
  obtain ⟨q8, f8, l8⟩ := z8.all
  go_wp2_with fail
  refine (frame_Check _ _ _ _ _ _ _ _ hNm).mono ?_
  rw [Hh.out.1]
  rintro e w1 ⟨rfl, hb1⟩
  have y4 := z4.keep hb1
  have y5 := z5.keep hb1
  have y6 := z6.keep hb1
  have y7 := z7.keep hb1
  have y8 := z8.keep hb1
  have B1 := bcall B0 hb1
  clear z4 z5 z6 z7 z8 B0 hb1
  clear q4 f4 l4 q5 f5 l5 q6 f6 l6 q7 f7 l7 q8 f8 l8
  obtain ⟨q4, f4, l4⟩ := y4.all
  obtain ⟨q5, f5, l5⟩ := y5.all
  obtain ⟨q6, f6, l6⟩ := y6.all
  obtain ⟨q7, f7, l7⟩ := y7.all
  obtain ⟨q8, f8, l8⟩ := y8.all
  go_wp2_with fail
  have rd5 : Rd w1 (W.heap.size + 1) 0 [wa, wb_, wc] := by
    refine ⟨y5.lt, fun k hk => ?_⟩
    rw [Nat.zero_add, y5.all.1 k]
    match k, hk with
    | 0, _ => rfl
    | 1, _ => rfl
    | 2, _ => rfl
  refine (num_AllNumbers [wa, wb_, wc] _ 3 3 _ rfl (by omega) rd5).mono ?_
  rw [Hh.out.2.1]
  rintro e w2 ⟨rfl, hb2⟩
  have z4 := y4.keep hb2
  have z5 := y5.keep hb2
  have z6 := y6.keep hb2
  have z7 := y7.keep hb2
  have z8 := y8.keep hb2
  have B2 := bcall B1 hb2
  clear y4 y5 y6 y7 y8 B1 hb2 rd5
  clear q4 f4 l4 q5 f5 l5 q6 f6 l6 q7 f7 l7 q8 f8 l8
  obtain ⟨q4, f4, l4⟩ := z4.all
  obtain ⟨q5, f5, l5⟩ := z5.all
  obtain ⟨q6, f6, l6⟩ := z6.all
  obtain ⟨q7, f7, l7⟩ := z7.all
  obtain ⟨q8, f8, l8⟩ := z8.all
  go_wp2_with fail
  refine (num_IsNumber _ _).mono ?_
  rw [Hh.out.2.2]
  rintro e w' ⟨rfl, rfl⟩
  go_wp2_with fail
  have yz := (set5 z8 (.int .i64 0) (.int .i64 0) (.int .i64 0) (.int .i64 0) (.slice none 0 0)).1.all.1
  refine bodyPost_ret (v := .tuple #[.agg #[.int .i64 0, .int .i64 0, .int .i64 0, .int .i64 0, .slice none 0 0], .int .i64 3]) (by simp [results, Try.results56, go_sem, yz]) rfl ⟨rfl, ?_⟩
  repeat (refine bput (by omega) ?_)
  exact B2

set_option maxRecDepth 100000 in
set_option maxHeartbeats 2000000 in
theorem scope_Zebra_ok (x y wd : Int) (w h M N b o c wa wb_ wc lv : Nat) (xs : List Nat) (W : World) (x1 : -3900000 ≤ x) (x2 : x ≤ 3900000) (y1 : -3900000 ≤ y) (y2 : y ≤ 3900000) (hw1 : 0 < w) (hw : w ≤ 256) (hh1 : 0 < h) (hh : h ≤ 256) (hM : M = w * h) (hM2 : M ≤ 65536) (hN : N = 4 * M) (hnc : N ≤ c) (hck : checkFrame x y w h N = 0) (hxs : xs.length = N) (hrd : Rd W b o xs) (hwn : [wa, wb_, wc].all isNum = true) (hln : isNum lv = true) (hd1 : 1 ≤ wd) (hd2 : wd ≤ 64) :
    Calls Try.prog 56 #[.agg #[.int .i64 x, .int .i64 y, .int .i64 w, .int .i64 h, .slice (some ⟨b, o, none⟩) N c], .agg #[.float .f32 wa, .float .f32 wb_, .float .f32 wc], .float .f32 lv, .int .i64 wd] W fun e w' =>
      ∃ g, e = .returned (.tuple #[.agg #[.int .i64 x, .int .i64 y, .int .i64 w, .int .i64 h, .slice (some ⟨g, 0, none⟩) N N], .int .i64 0]) ∧ W.heap.size ≤ g ∧ Row w' g N (madeL (zebM x y w wd lv wa wb_ wc xs) N) ∧ Below W.heap.size W w' := by
  have hNm : N ≤ maxLen := by unfold maxLen; omega
  have Hh := Lib.hid (And.intro hck (And.intro hwn (And.intro hln (And.intro hM (And.intro hN hxs)))))
  clear hck hwn hln hM hN hxs
  go_enter Try.func56, Try.ntmps56
  go_upto_region 1 with fail
  refine name_world ?_
  intro wb hwb
  have z4 : Bx wb W.heap.size 26 #[.int .i64 x, .int .i64 y, .int .i64 w, .int .i64 h, .slice (some ⟨b, o, none⟩) N c] := by rw [hwb]; exact Bx.alloc (Bx.alloc (Bx.alloc (Bx.alloc (Bx.new _ _ _) _) _) _) _
  have z5 : Bx wb (W.heap.size + 1) 75 #[.float .f32 wa, .float .f32 wb_, .float .f32 wc] := by rw [hwb]; exact Bx.alloc (Bx.alloc (Bx.alloc (Bx.at _ (by simp)) _) _) _
  have z6 : Bx wb (W.heap.size + 1 + 1) 33 #[.float .f32 lv] := by rw [hwb]; exact Bx.alloc (Bx.alloc (Bx.at _ (by simp)) _) _
  have z7 : Bx wb (W.heap.size + 1 + 1 + 1) 3 #[.int .i64 wd] := by rw [hwb]; exact Bx.alloc (Bx.at _ (by simp)) _
  have z8 : Bx wb (W.heap.size + 1 + 1 + 1 + 1) 26 #[.int .i64 0, .int .i64 0, .int .i64 0, .int .i64 0, .slice none 0 0] := by rw [hwb]; exact Bx.at _ (by simp)
  have B0 : Below W.heap.size W wb := by rw [hwb]; exact bnew (bnew (bnew (bnew (bnew (Below.refl _ W)))))
  clear hwb
  obtain ⟨q4, f4, l4⟩ := z4.all
  obtain ⟨q5, f5, l5⟩ := z5.all
  obtain ⟨q6, f6, l6⟩ := z6.all
  obtain ⟨q7, f7, l7⟩ := z7.all
  obtain ⟨q8, f8, l8⟩ := z8.all
  go_wp2_with fail
  refine (frame_Check _ _ _ _ _ _ _ _ hNm).mono ?_
  rw [Hh.out.1]
  rintro e w1 ⟨rfl, hb1⟩
  have y4 := z4.keep hb1
  have y5 := z5.keep hb1
  have y6 := z6.keep hb1
  have y7 := z7.keep hb1
  have y8 := z8.keep hb1
  have B1 := bcall B0 hb1
  clear z4 z5 z6 z7 z8 B0 hb1
  clear q4 f4 l4 q5 f5 l5 q6 f6 l6 q7 f7 l7 q8 f8 l8
  obtain ⟨q4, f4, l4⟩ := y4.all
  obtain ⟨q5, f5, l5⟩ := y5.all
  obtain ⟨q6, f6, l6⟩ := y6.all
  obtain ⟨q7, f7, l7⟩ := y7.all
  obtain ⟨q8, f8, l8⟩ := y8.all
  go_wp2_with fail
  have rd5 : Rd w1 (W.heap.size + 1) 0 [wa, wb_, wc] := by
    refine ⟨y5.lt, fun k hk => ?_⟩
    rw [Nat.zero_add, y5.all.1 k]
    match k, hk with
    | 0, _ => rfl
    | 1, _ => rfl
    | 2, _ => rfl
  refine (num_AllNumbers [wa, wb_, wc] _ 3 3 _ rfl (by omega) rd5).mono ?_
  rw [Hh.out.2.1]
  rintro e w2 ⟨rfl, hb2⟩
  have z4 := y4.keep hb2
  have z5 := y5.keep hb2
  have z6 := y6.keep hb2
  have z7 := y7.keep hb2
  have z8 := y8.keep hb2
  have B2 := bcall B1 hb2
  clear y4 y5 y6 y7 y8 B1 hb2 rd5
  clear q4 f4 l4 q5 f5 l5 q6 f6 l6 q7 f7 l7 q8 f8 l8
  obtain ⟨q4, f4, l4⟩ := z4.all
  obtain ⟨q5, f5, l5⟩ := z5.all
  obtain ⟨q6, f6, l6⟩ := z6.all
  obtain ⟨q7, f7, l7⟩ := z7.all
  obtain ⟨q8, f8, l8⟩ := z8.all
  go_wp2_with fail
  refine (num_IsNumber _ _).mono ?_
  rw [Hh.out.2.2.1]
  rintro e w' ⟨rfl, rfl⟩
  go_wp2_with fail
  refine (scope_repainted x y w h M N b o N c wa wb_ wc _ _ xs (zebM x y w wd lv wa wb_ wc xs) _ (by omega) (by omega) (by omega) (by omega) hw1 hw hh1 hh Hh.out.2.2.2.1 hM2 Hh.out.2.2.2.2.1 Hh.out.2.2.2.2.1 hnc Hh.out.2.2.2.2.2 (hrd.keep B2) (zebra_paints x y wd w h wa wb_ wc lv _ _ _ _ xs _ x1 x2 y1 y2 hw hh hd1 hd2 z6 z7)).mono ?_
  rintro e w4 ⟨g, rfl, hg, hrow, hb4⟩
  have y8 := z8.keep hb4
  have B4 := bcall B2 hb4
  have hs3 := B2.size
  have l8' := z8.lt
  clear z4 z5 z6 z7 z8 B2 hb4
  clear q4 f4 l4 q5 f5 l5 q6 f6 l6 q7 f7 l7 q8 f8 l8
  obtain ⟨q8, f8, l8⟩ := y8.all
  go_wp2_with fail
  refine bodyPost_ret (v := .tuple #[.agg #[.int .i64 x, .int .i64 y, .int .i64 w, .int .i64 h, .slice (some ⟨g, 0, none⟩) N N], .int .i64 0]) (by simp [results, Try.results56, go_sem, q8]) rfl ⟨g, rfl, by omega, ?_, ?_⟩
  · repeat (refine Row.other' (by omega) ?_)
    exact hrow
  · repeat (refine bput (by omega) ?_)
    exact B4
end Go.Proofs.Ytoffnmpnhddaiaa
