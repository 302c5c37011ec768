/- key.WindowMatte. (printed by gen_wnf.py) -/
import Derived.Test.YtfkiljhjiogdlaaWnE
import Derived.Test.YtfkiljhjiogdlaaGrd
namespace Go.Proofs.Ytfkiljhjiogdlaa
open Go.RowKit

theorem cr_zero {x y w h : Int} (hc : checkRegion x y w h = 0) : 1 ≤ w ∧ w ≤ 256 ∧ 1 ≤ h ∧ h ≤ 256 ∧ w * h ≤ 16384 ∧ -1048576 ≤ x ∧ x ≤ 1048576 - w ∧ -1048576 ≤ y ∧ y ≤ 1048576 - h := by
  unfold checkRegion at hc
  split at hc
  · omega
  · split at hc
    · omega
    · split at hc
      · omega
      · simp [outB] at *
        omega
theorem row_at (w : World) (n g : Nat) (h : w.heap.size = g) : Row (w.alloc (.cells (madeCells #[.float .f32 0] n) 22)) g n (List.replicate n 0) := by subst h; exact Row.made w n

set_option maxRecDepth 100000 in
set_option maxHeartbeats 4000000 in
theorem key_WindowMatte_err1 (kind : Int) (X Y Wd H S : Nat) (pa : Option Addr) (n c : Nat) (ps : List (Int × Int)) (out : Bool) (rx ry : Int) (rw rh : Nat) (W : World) (hs : SlP W (.slice pa n c) ps) (E : Int) (hE : winErr kind X Y Wd H S ps = E) (h0 : E ≠ 0) : Calls Try.prog 7 #[.agg #[.int .i64 kind, .float .f32 X, .float .f32 Y, .float .f32 Wd, .float .f32 H, .float .f32 S, .slice pa n c, .bool out], .agg #[.int .i64 rx, .int .i64 ry, .int .i64 (rw : Int), .int .i64 (rh : Int)]] W fun e w' => e = .returned (.tuple #[.agg #[.int .i64 0, .int .i64 0, .int .i64 0, .int .i64 0, .slice none 0 0], .int .i64 E]) ∧ Below W.heap.size W w' := by
  have HW : Hid (∀ w, SlP w (.slice pa n c) ps → Calls Try.prog 26 #[.agg #[.int .i64 kind, .float .f32 X, .float .f32 Y, .float .f32 Wd, .float .f32 H, .float .f32 S, .slice pa n c, .bool out]] w fun e w' => e = .returned (.int .i64 E) ∧ Below w.heap.size w w') := Lib.hid fun w h => by rw [← hE]; exact key_CheckWindow kind X Y Wd H S _ ps out w h
  have HS := Lib.hid hs
  have e0 : (E != 0) = true := by simpa using h0
  clear hs hE h0
  go_enter Try.func7, Try.ntmps7
  go_upto_region 1 with fail
  refine name_world ?_
  intro w0 hw0
  have x2 : Bx w0 W.heap.size 25 #[.int .i64 kind, .float .f32 X, .float .f32 Y, .float .f32 Wd, .float .f32 H, .float .f32 S, .slice pa n c, .bool out] := by rw [hw0]; exact ((Bx.new _ _ _).alloc _).alloc _
  have x3 : Bx w0 (W.heap.size + 1) 27 #[.int .i64 rx, .int .i64 ry, .int .i64 (rw : Int), .int .i64 (rh : Int)] := by rw [hw0]; exact (Bx.at _ (by simp)).alloc _
  have x4 : Bx w0 (W.heap.size + 2) 31 #[.int .i64 0, .int .i64 0, .int .i64 0, .int .i64 0, .slice none 0 0] := by rw [hw0]; exact Bx.at _ (by simp)
  have B : Below W.heap.size W w0 := by rw [hw0]; exact bnew (bnew (bnew (Below.refl _ W)))
  clear hw0
  obtain ⟨q2, f2, l2⟩ := x2.all
  obtain ⟨q3, f3, l3⟩ := x3.all
  obtain ⟨q4, f4, l4⟩ := x4.all
  go_wp2_with fail
  refine (HW.out _ (HS.out.keep B)).mono ?_
  rintro e w1 ⟨rfl, hb⟩
  replace x2 := x2.keep hb
  replace x3 := x3.keep hb
  replace x4 := x4.keep hb
  replace B := bcall B hb
  clear hb q2 f2 l2 q3 f3 l3 q4 f4 l4
  obtain ⟨q2, f2, l2⟩ := x2.all
  obtain ⟨q3, f3, l3⟩ := x3.all
  obtain ⟨q4, f4, l4⟩ := x4.all
  go_wp2_with fail
  exact bodyPost_ret (v := .tuple #[.agg #[.int .i64 0, .int .i64 0, .int .i64 0, .int .i64 0, .slice none 0 0], .int .i64 E]) (by simp [results, Try.results7, go_sem, q4]) rfl ⟨rfl, bput (by omega) (bput (by omega) (bput (by omega) (bput (by omega) (bput (by omega) B))))⟩

set_option maxRecDepth 100000 in
set_option maxHeartbeats 4000000 in
theorem key_WindowMatte_err2 (kind : Int) (X Y Wd H S : Nat) (pa : Option Addr) (n c : Nat) (ps : List (Int × Int)) (out : Bool) (rx ry : Int) (rw rh : Nat) (W : World) (hs : SlP W (.slice pa n c) ps) (E : Int) (hE : winErr kind X Y Wd H S ps = 0) (hC : checkRegion rx ry rw rh = E) (h0 : E ≠ 0) : Calls Try.prog 7 #[.agg #[.int .i64 kind, .float .f32 X, .float .f32 Y, .float .f32 Wd, .float .f32 H, .float .f32 S, .slice pa n c, .bool out], .agg #[.int .i64 rx, .int .i64 ry, .int .i64 (rw : Int), .int .i64 (rh : Int)]] W fun e w' => e = .returned (.tuple #[.agg #[.int .i64 0, .int .i64 0, .int .i64 0, .int .i64 0, .slice none 0 0], .int .i64 E]) ∧ Below W.heap.size W w' := by
  have HW : Hid (∀ w, SlP w (.slice pa n c) ps → Calls Try.prog 26 #[.agg #[.int .i64 kind, .float .f32 X, .float .f32 Y, .float .f32 Wd, .float .f32 H, .float .f32 S, .slice pa n c, .bool out]] w fun e w' => e = .returned (.int .i64 0) ∧ Below w.heap.size w w') := Lib.hid fun w h => by rw [← hE]; exact key_CheckWindow kind X Y Wd H S _ ps out w h
  have HS := Lib.hid hs
  have e0 : (E != 0) = true := by simpa using h0
  have HC : Hid (∀ w, Calls Try.prog 27 #[.agg #[.int .i64 rx, .int .i64 ry, .int .i64 (rw : Int), .int .i64 (rh : Int)]] w fun e w' => e = .returned (.int .i64 E) ∧ Below w.heap.size w w') := Lib.hid fun w => by rw [← hC]; exact frame_CheckRegion _ _ _ _ w
  clear hs hE h0 hC
  go_enter Try.func7, Try.ntmps7
  go_upto_region 1 with fail
  refine name_world ?_
  intro w0 hw0
  have x2 : Bx w0 W.heap.size 25 #[.int .i64 kind, .float .f32 X, .float .f32 Y, .float .f32 Wd, .float .f32 H, .float .f32 S, .slice pa n c, .bool out] := by rw [hw0]; exact ((Bx.new _ _ _).alloc _).alloc _
  have x3 : Bx w0 (W.heap.size + 1) 27 #[.int .i64 rx, .int .i64 ry, .int .i64 (rw : Int), .int .i64 (rh : Int)] := by rw [hw0]; exact (Bx.at _ (by simp)).alloc _
  have x4 : Bx w0 (W.heap.size + 2) 31 #[.int .i64 0, .int .i64 0, .int .i64 0, .int .i64 0, .slice none 0 0] := by rw [hw0]; exact Bx.at _ (by simp)
  have B : Below W.heap.size W w0 := by rw [hw0]; exact bnew (bnew (bnew (Below.refl _ W)))
  clear hw0
  obtain ⟨q2, f2, l2⟩ := x2.all
  obtain ⟨q3, f3, l3⟩ := x3.all
  obtain ⟨q4, f4, l4⟩ := x4.all
  go_wp2_with fail
  refine (HW.out _ (HS.out.keep B)).mono ?_
  rintro e w1 ⟨rfl, hb⟩
  replace x2 := x2.keep hb
  replace x3 := x3.keep hb
  replace x4 := x4.keep hb
  replace B := bcall B hb
  clear hb q2 f2 l2 q3 f3 l3 q4 f4 l4
  obtain ⟨q2, f2, l2⟩ := x2.all
  obtain ⟨q3, f3, l3⟩ := x3.all
  obtain ⟨q4, f4, l4⟩ := x4.all
  go_wp2_with fail
  refine (HC.out _).mono ?_
  rintro e w2 ⟨rfl, hb⟩
  replace x2 := x2.keep hb
  replace x3 := x3.keep hb
  replace x4 := x4.keep hb
  replace B := bcall B hb
  clear hb q2 f2 l2 q3 f3 l3 q4 f4 l4
  obtain ⟨q2, f2, l2⟩ := x2.all
  obtain ⟨q3, f3, l3⟩ := x3.all
  obtain ⟨q4, f4, l4⟩ := x4.all
  go_wp2_with fail
  exact bodyPost_ret (v := .tuple #[.agg #[.int .i64 0, .int .i64 0, .int .i64 0, .int .i64 0, .slice none 0 0], .int .i64 E]) (by simp [results, Try.results7, go_sem, q4]) rfl ⟨rfl, bput (by omega) (bput (by omega) (bput (by omega) (bput (by omega) (bput (by omega) B))))⟩

set_option maxRecDepth 100000 in
set_option maxHeartbeats 8000000 in
theorem key_WindowMatte_ok (kind : Int) (X Y Wd H S : Nat) (pa : Option Addr) (n c : Nat) (ps : List (Int × Int)) (out : Bool) (rx ry : Int) (rw rh : Nat) (W : World) (hs : SlP W (.slice pa n c) ps) (ix iy : Int) (hE : winErr kind X Y Wd H S ps = 0) (hC : checkRegion rx ry rw rh = 0) (hX : Val X ix) (hY : Val Y iy) (b1 : -200000 ≤ ix) (b2 : ix ≤ 200000) (b3 : -200000 ≤ iy) (b4 : iy ≤ 200000) : Calls Try.prog 7 #[.agg #[.int .i64 kind, .float .f32 X, .float .f32 Y, .float .f32 Wd, .float .f32 H, .float .f32 S, .slice pa n c, .bool out], .agg #[.int .i64 rx, .int .i64 ry, .int .i64 (rw : Int), .int .i64 (rh : Int)]] W fun e w' =>
    ∃ g, e = .returned (.tuple #[.agg #[.int .i64 rx, .int .i64 ry, .int .i64 (rw : Int), .int .i64 (rh : Int), .slice (some ⟨g, 0, none⟩) (rw * rh) (rw * rh)], .int .i64 0]) ∧ W.heap.size ≤ g ∧ Row w' g (rw * rh) ((List.range (rw * rh)).map fun k => covAt kind ix iy Wd H S ps out (rx + ((k % rw : Nat) : Int)) (ry + ((k / rw : Nat) : Int))) ∧ Below W.heap.size W w' := by
  have HW : Hid (∀ w, SlP w (.slice pa n c) ps → Calls Try.prog 26 #[.agg #[.int .i64 kind, .float .f32 X, .float .f32 Y, .float .f32 Wd, .float .f32 H, .float .f32 S, .slice pa n c, .bool out]] w fun e w' => e = .returned (.int .i64 0) ∧ Below w.heap.size w w') := Lib.hid fun w h => by rw [← hE]; exact key_CheckWindow kind X Y Wd H S _ ps out w h
  have HS := Lib.hid hs
  have HC : Hid (∀ w, Calls Try.prog 27 #[.agg #[.int .i64 rx, .int .i64 ry, .int .i64 (rw : Int), .int .i64 (rh : Int)]] w fun e w' => e = .returned (.int .i64 0) ∧ Below w.heap.size w w') := Lib.hid fun w => by rw [← hC]; exact frame_CheckRegion _ _ _ _ w
  obtain ⟨r1, r2, r3, r4, r5, r6, r7, r8, r9⟩ := cr_zero hC
  obtain ⟨N, hN⟩ : ∃ N, N = rw * rh := ⟨_, rfl⟩
  have hNi : (rw : Int) * (rh : Int) = (N : Int) := by rw [hN]; push_cast; rfl
  have hN2 : N ≤ 16384 := by rw [hNi] at r5; omega
  have hrw0 : 0 < rw := by omega
  have hrb : ∀ k, k < N → k % rw < 256 ∧ k / rw < 256 := fun k hk => by
    have h1 := Nat.mod_lt k hrw0
    have h2 : k / rw < rh := by rw [Nat.div_lt_iff_lt_mul hrw0, Nat.mul_comm]; omega
    omega
  obtain ⟨F, hF⟩ : ∃ F : Nat → Nat, F = fun k => covAt kind ix iy Wd H S ps out (rx + ((k % rw : Nat) : Int)) (ry + ((k / rw : Nat) : Int)) := ⟨_, rfl⟩
  have HV : Hid (∀ k, k < N → ∀ w, SlP w (.slice pa n c) ps → Calls Try.prog 28 #[.agg #[.int .i64 kind, .float .f32 X, .float .f32 Y, .float .f32 Wd, .float .f32 H, .float .f32 S, .slice pa n c, .bool out], .int .i64 (rx + ((k % rw : Nat) : Int)), .int .i64 (ry + ((k / rw : Nat) : Int))] w fun e w' => e = .returned (.float .f32 (F k)) ∧ Below w.heap.size w w') := Lib.hid fun k hk w h => by
    have := hrb k hk
    rw [hF]
    simp only []
    generalize k % rw = kx at this ⊢
    generalize k / rw = ky at this ⊢
    exact key_covered kind X Y Wd H S _ ps out _ _ ix iy w h hE hX hY b1 b2 b3 b4 (by omega) (by omega) (by omega) (by omega)
  rw [show ((List.range (rw * rh)).map fun k => covAt kind ix iy Wd H S ps out (rx + ((k % rw : Nat) : Int)) (ry + ((k / rw : Nat) : Int))) = (List.range N).map F by rw [hN, hF], ← hN]
  have Hrb := Lib.hid hrb
  have hmk := fun w => run_makeF w N (by omega)
  clear hs hE hC hF hN hX hY hrb
  go_enter Try.func7, Try.ntmps7
  go_upto_region 1 with fail
  refine name_world ?_
  intro w0 hw0
  have x2 : Bx w0 W.heap.size 25 #[.int .i64 kind, .float .f32 X, .float .f32 Y, .float .f32 Wd, .float .f32 H, .float .f32 S, .slice pa n c, .bool out] := by rw [hw0]; exact ((Bx.new _ _ _).alloc _).alloc _
  have x3 : Bx w0 (W.heap.size + 1) 27 #[.int .i64 rx, .int .i64 ry, .int .i64 (rw : Int), .int .i64 (rh : Int)] := by rw [hw0]; exact (Bx.at _ (by simp)).alloc _
  have x4 : Bx w0 (W.heap.size + 2) 31 #[.int .i64 0, .int .i64 0, .int .i64 0, .int .i64 0, .slice none 0 0] := by rw [hw0]; exact Bx.at _ (by simp)
  have B : Below W.heap.size W w0 := by rw [hw0]; exact bnew (bnew (bnew (Below.refl _ W)))
  clear hw0
  obtain ⟨q2, f2, l2⟩ := x2.all
  obtain ⟨q3, f3, l3⟩ := x3.all
  obtain ⟨q4, f4, l4⟩ := x4.all
  go_wp2_with fail
  refine (HW.out _ (HS.out.keep B)).mono ?_
  rintro e w1 ⟨rfl, hb⟩
  replace x2 := x2.keep hb
  replace x3 := x3.keep hb
  replace x4 := x4.keep hb
  replace B := bcall B hb
  clear hb q2 f2 l2 q3 f3 l3 q4 f4 l4
  obtain ⟨q2, f2, l2⟩ := x2.all
  obtain ⟨q3, f3, l3⟩ := x3.all
  obtain ⟨q4, f4, l4⟩ := x4.all
  go_wp2_with fail
  refine (HC.out _).mono ?_
  rintro e w2 ⟨rfl, hb⟩
  replace x2 := x2.keep hb
  replace x3 := x3.keep hb
  replace x4 := x4.keep hb
  replace B := bcall B hb
  clear hb q2 f2 l2 q3 f3 l3 q4 f4 l4
  obtain ⟨q2, f2, l2⟩ := x2.all
  obtain ⟨q3, f3, l3⟩ := x3.all
  obtain ⟨q4, f4, l4⟩ := x4.all
  go_upto_region 7 with fail
  go_region
  all_goals go_wp2_with fail
  all_goals
    refine name_world ?_
    intro wb hwb
    have B2 : Below w2.heap.size w2 wb := by rw [hwb]; exact (bnew (bnew (Below.refl _ w2))).drew
  all_goals first
    | (have x8 : Bx wb (w2.heap.size + 1) 31 #[.int .i64 rx, .int .i64 ry, .int .i64 (rw : Int), .int .i64 (rh : Int), .slice (some ⟨w2.heap.size, 0, none⟩) N N] := by rw [hwb]; exact Bx.drewN (Bx.at _ (by simp)) 1
       have row : Row wb w2.heap.size N (List.replicate N 0) := by rw [hwb]; exact Row.drewN (Row.alloc (row_at _ _ _ (by simp)) _) 1
       have hp1 : W.heap.size + 2 < w2.heap.size := by omega
       have hp2 : W.heap.size + 2 < w2.heap.size + 1 := by omega
       have hne : w2.heap.size + 1 ≠ w2.heap.size := by omega
       clear hwb
       replace x2 := x2.keep B2
       replace x3 := x3.keep B2
       replace x4 := x4.keep B2
       replace B := bcall B B2
       clear B2 q2 f2 l2 q3 f3 l3 q4 f4 l4
       generalize hp8 : w2.heap.size + 1 = p8 at x8 hp2 hne ⊢
       clear hp8
       generalize hpg : w2.heap.size = pg at row hp1 hne x8 ⊢
       clear hpg)
    | (have x8 : Bx wb w2.heap.size 31 #[.int .i64 rx, .int .i64 ry, .int .i64 (rw : Int), .int .i64 (rh : Int), .slice (some ⟨w2.heap.size + 1, 0, none⟩) N N] := by rw [hwb]; exact Bx.drewN (Bx.alloc (Bx.at _ (by simp)) _) 1
       have row : Row wb (w2.heap.size + 1) N (List.replicate N 0) := by rw [hwb]; exact Row.drewN (row_at _ _ _ (by simp)) 1
       have hp1 : W.heap.size + 2 < w2.heap.size + 1 := by omega
       have hp2 : W.heap.size + 2 < w2.heap.size := by omega
       have hne : w2.heap.size ≠ w2.heap.size + 1 := by omega
       clear hwb
       replace x2 := x2.keep B2
       replace x3 := x3.keep B2
       replace x4 := x4.keep B2
       replace B := bcall B B2
       clear B2 q2 f2 l2 q3 f3 l3 q4 f4 l4
       generalize hpg : w2.heap.size + 1 = pg at row hp1 hne x8 ⊢
       clear hpg
       generalize hp8 : w2.heap.size = p8 at x8 hp2 hne ⊢
       clear hp8)
  all_goals
    clear hmk
    go_loopw [33] (fun i wr => ∃ k : Nat, k ≤ N ∧ i = .int .i64 (k : Int) ∧ Row wr pg N (fillTo N k F) ∧ Bx wr p8 31 #[.int .i64 rx, .int .i64 ry, .int .i64 (rw : Int), .int .i64 (rh : Int), .slice (some ⟨pg, 0, none⟩) N N] ∧ Bx wr W.heap.size 25 #[.int .i64 kind, .float .f32 X, .float .f32 Y, .float .f32 Wd, .float .f32 H, .float .f32 S, .slice pa n c, .bool out] ∧ Bx wr (W.heap.size + 1) 27 #[.int .i64 rx, .int .i64 ry, .int .i64 (rw : Int), .int .i64 (rh : Int)] ∧ Bx wr (W.heap.size + 2) 31 #[.int .i64 0, .int .i64 0, .int .i64 0, .int .i64 0, .slice none 0 0] ∧ Below W.heap.size W wr) (fun i _ => N - (intOf i).toNat)
    case atStart => exact ⟨0, by omega, rfl, by rw [fillTo_zero]; exact row, x8, x2, x3, x4, B⟩
    case round =>
      clear row x8 x2 x3 x4 B
      obtain ⟨k, hk, rfl, row, x8, x2, x3, x4, B⟩ := hrel
      obtain ⟨q8, f8, l8⟩ := x8.all
      obtain ⟨q4, f4, l4⟩ := x4.all
      by_cases hlt : k < N
      · have hki : (k : Int) < (N : Int) := by omega
        have hk63 : (k : Int) < 9223372036854775808 := by omega
        obtain ⟨m1, m2⟩ := Hrb.out k hlt
        have V := HV.out k hlt
        obtain ⟨kx, hkx⟩ : ∃ kx, k % rw = kx := ⟨_, rfl⟩
        obtain ⟨ky, hky⟩ : ∃ ky, k / rw = ky := ⟨_, rfl⟩
        rw [hkx] at m1 V
        rw [hky] at m2 V
        obtain ⟨fk, hfk⟩ : ∃ fk, F k = fk := ⟨_, rfl⟩
        rw [hfk] at V
        replace V := Lib.hid V
        have Hfk := Lib.hid hfk
        clear hfk
        have hrw1 : (rw : Int) ≠ 0 := by omega
        have hrw2 : rw ≠ 0 := by omega
        have hr1 : ((k : Int)).tmod (rw : Int) = (kx : Int) := by rw [← hkx]; rfl
        have hq1 : (k : Int) / (rw : Int) = (ky : Int) := by rw [← hky]; rfl
        have hq2 : ((k : Int)).tdiv (rw : Int) = (ky : Int) := by rw [← hky]; rfl
        have hkw : IntKind.i64.wrap (ky : Int) = (ky : Int) := IntWalk.i64_in _ (by omega)
        have hxw : IntKind.i64.wrap (kx : Int) = (kx : Int) := IntWalk.i64_in _ (by omega)
        clear hkx hky
        go_upto_region 11 with fail
        refine name_world ?_
        intro wz hwz
        rw [← hwz] at row x8 x2 x3 x4 B q8 f8 l8 q4 f4 l4
        clear hwz q8 f8 l8 q4 f4 l4
        refine wp_region_grd 20 (fun _ => false) (fun q u w' => u = [.pointer (some ⟨p8, 4, none⟩), .slice (some ⟨pg, 0, none⟩) N N, .int .i64 (k : Int), .agg #[.int .i64 kind, .float .f32 X, .float .f32 Y, .float .f32 Wd, .float .f32 H, .float .f32 S, .slice pa n c, .bool out], .pointer (some ⟨W.heap.size + 1, 0, none⟩), .int .i64 rx, .int .i64 (k : Int), .pointer (some ⟨W.heap.size + 1, 2, none⟩), .int .i64 (rw : Int), .int .i64 (kx : Int), .int .i64 (rx + (kx : Int)), .pointer (some ⟨W.heap.size + 1, 1, none⟩), .int .i64 ry, .int .i64 (k : Int), .pointer (some ⟨W.heap.size + 1, 2, none⟩), .int .i64 (rw : Int), .int .i64 (ky : Int), .int .i64 (ry + (ky : Int)), .float .f32 fk, .pointer (some ⟨pg, k, none⟩)].getD q undef) (fun _ => false) (fun w' => Below wz.heap.size wz w') (by kernel_rfl) (by kernel_rfl) (fun _ _ _ _ _ h => h)
          (fun _ _ h e => e.trans (h.mono e.size)) (fun t u a' b' hb h => ?_) (Below.refl _ _).drew ?_ ?_ ?_
        · exact h
        · intro t op ht hlt hop
          clear hlt
          rcases (by omega : t = 0 ∨ t = 1 ∨ t = 2 ∨ t = 3 ∨ t = 4 ∨ t = 5 ∨ t = 6 ∨ t = 7 ∨ t = 8 ∨ t = 9 ∨ t = 10 ∨ t = 11 ∨ t = 12 ∨ t = 13 ∨ t = 14 ∨ t = 15 ∨ t = 16 ∨ t = 17 ∨ t = 18 ∨ t = 19) with rfl | rfl | rfl | rfl | rfl | rfl | rfl | rfl | rfl | rfl | rfl | rfl | rfl | rfl | rfl | rfl | rfl | rfl | rfl | rfl
          all_goals simp only [List.getElem?_cons_zero, List.getElem?_cons_succ, Option.some.injEq] at hop
          all_goals subst hop
          all_goals intro a wx hE hag hdep
          · refine grd_none rfl ?_
            have e0 := slot_eq (hag 8 rfl)
            exact rel_pure _ rfl rfl (by simp [go_sem, e0])
          · refine grd_none rfl ?_
            have e0 := slot_eq (hdep ⟨0, .data⟩ (by simp) rfl)
            have hq := (x8.keep hE).all.1
            exact rel_pure _ rfl rfl (by simp [go_sem, e0, hq])
          · refine grd_none rfl ?_
            have e0 := slot_eq (hag 9 rfl)
            exact rel_pure _ rfl rfl (by simp [go_sem, e0])
          · refine grd_none rfl ?_
            have e0 := slot_eq (hag 2 rfl)
            have hq := (x2.keep hE).all.1
            exact rel_pure _ rfl rfl (by simp [go_sem, e0, hq])
          · refine grd_none rfl ?_
            have e0 := slot_eq (hag 3 rfl)
            exact rel_pure _ rfl rfl (by simp [go_sem, e0])
          · refine grd_none rfl ?_
            have e0 := slot_eq (hdep ⟨4, .data⟩ (by simp) rfl)
            have hq := (x3.keep hE).all.1
            exact rel_pure _ rfl rfl (by simp [go_sem, e0, hq])
          · refine grd_none rfl ?_
            have e0 := slot_eq (hag 9 rfl)
            exact rel_pure _ rfl rfl (by simp [go_sem, e0])
          · refine grd_none rfl ?_
            have e0 := slot_eq (hag 3 rfl)
            exact rel_pure _ rfl rfl (by simp [go_sem, e0])
          · refine grd_none rfl ?_
            have e0 := slot_eq (hdep ⟨7, .data⟩ (by simp) rfl)
            have hq := (x3.keep hE).all.1
            exact rel_pure _ rfl rfl (by simp [go_sem, e0, hq])
          · refine grd_none rfl ?_
            have e0 := slot_eq (hdep ⟨6, .data⟩ (by simp) rfl)
            have e1 := slot_eq (hdep ⟨8, .data⟩ (by simp) rfl)
            exact rel_pure _ rfl rfl (by simp [go_sem, e0, e1, hrw1, hrw2, hr1, hxw])
          · refine grd_none rfl ?_
            have e0 := slot_eq (hdep ⟨5, .data⟩ (by simp) rfl)
            have e1 := slot_eq (hdep ⟨9, .data⟩ (by simp) rfl)
            have hw : IntKind.i64.wrap (rx + (kx : Int)) = (rx + (kx : Int)) := IntWalk.i64_in _ (by omega)
            exact rel_pure _ rfl rfl (by simp [go_sem, e0, e1, hw])
          · refine grd_none rfl ?_
            have e0 := slot_eq (hag 3 rfl)
            exact rel_pure _ rfl rfl (by simp [go_sem, e0])
          · refine grd_none rfl ?_
            have e0 := slot_eq (hdep ⟨11, .data⟩ (by simp) rfl)
            have hq := (x3.keep hE).all.1
            exact rel_pure _ rfl rfl (by simp [go_sem, e0, hq])
          · refine grd_none rfl ?_
            have e0 := slot_eq (hag 9 rfl)
            exact rel_pure _ rfl rfl (by simp [go_sem, e0])
          · refine grd_none rfl ?_
            have e0 := slot_eq (hag 3 rfl)
            exact rel_pure _ rfl rfl (by simp [go_sem, e0])
          · refine grd_none rfl ?_
            have e0 := slot_eq (hdep ⟨14, .data⟩ (by simp) rfl)
            have hq := (x3.keep hE).all.1
            exact rel_pure _ rfl rfl (by simp [go_sem, e0, hq])
          · refine grd_none rfl ?_
            have e0 := slot_eq (hdep ⟨13, .data⟩ (by simp) rfl)
            have e1 := slot_eq (hdep ⟨15, .data⟩ (by simp) rfl)
            exact rel_pure _ rfl rfl (by simp [go_sem, e0, e1, hrw1, hrw2, hq1, hq2, hkw])
          · refine grd_none rfl ?_
            have e0 := slot_eq (hdep ⟨12, .data⟩ (by simp) rfl)
            have e1 := slot_eq (hdep ⟨16, .data⟩ (by simp) rfl)
            have hw : IntKind.i64.wrap (ry + (ky : Int)) = (ry + (ky : Int)) := IntWalk.i64_in _ (by omega)
            exact rel_pure _ rfl rfl (by simp [go_sem, e0, e1, hw])
          · refine grd_none rfl ?_
            have e0 := slot_eq (hdep ⟨3, .data⟩ (by simp) rfl)
            have e1 := slot_eq (hdep ⟨10, .data⟩ (by simp) rfl)
            have e2 := slot_eq (hdep ⟨17, .data⟩ (by simp) rfl)
            refine rel_call (f := 28) (args := #[.agg #[.int .i64 kind, .float .f32 X, .float .f32 Y, .float .f32 Wd, .float .f32 H, .float .f32 S, .slice pa n c, .bool out], .int .i64 (rx + (kx : Int)), .int .i64 (ry + (ky : Int))]) (run_go_call Try.func28 (by kernel_rfl) (by kernel_rfl) _ _ _ _ _ _ _ _ _ _ (by simp [Act.eval, e0, e1, e2])) rfl ?_
            refine (V.out _ ((HS.out.keep B).keep hE)).mono ?_
            rintro e w' ⟨rfl, hbx⟩
            exact ⟨_, rfl, rfl, hbx⟩
          · refine grd_none rfl ?_
            have e0 := slot_eq (hdep ⟨1, .data⟩ (by simp) rfl)
            have e1 := slot_eq (hdep ⟨2, .data⟩ (by simp) rfl)
            exact rel_pure _ rfl rfl (by simp [go_sem, e0, e1, hlt])
        · intro t op ht hlt; cases hlt
        intro vs wy hE hvs _
        have k18 : vs 18 = .float .f32 fk := hvs 18 (by omega)
        have k19 : vs 19 = .pointer (some ⟨pg, k, none⟩) := hvs 19 (by omega)
        simp only [List.drop_succ_cons, List.drop_zero, putAll, dstAt, List.getElem?_toArray, List.getElem?_cons_zero, List.getElem?_cons_succ, Option.bind_some, Act.put, List.setIfInBounds_toArray, List.set_cons_zero, List.set_cons_succ, k18, k19]
        clear hvs k18 k19
        replace row := row.keep hE
        replace x8 := x8.keep hE
        replace x2 := x2.keep hE
        replace x3 := x3.keep hE
        replace x4 := x4.keep hE
        replace B := B.trans (hE.mono B.size)
        clear hE
        have hrc := row.cell k hlt
        have hrf := row.frozen k
        have lg := row.lt
        go_wp2_with fail
        go_roundw
        case rel =>
          have row2 := row.store k fk
          rw [← Hfk.out, fillTo_set N k F hlt] at row2
          rw [← Hfk.out]
          exact ⟨k + 1, by omega, by go_num, row2, x8.other _ _ (by simp; omega), x2.other _ _ (by simp; omega), x3.other _ _ (by simp; omega), x4.other _ _ (by simp; omega), bput (by omega) B⟩
        case measure => simp [intOf]; omega
      · obtain rfl : k = N := by omega
        rw [fillTo_full] at row
        have ll := B.size
        go_wp2_with fail
        exact bodyPost_ret (v := .tuple #[.agg #[.int .i64 rx, .int .i64 ry, .int .i64 (rw : Int), .int .i64 (rh : Int), .slice (some ⟨pg, 0, none⟩) k k], .int .i64 0]) (by simp [results, Try.results7, go_sem, q4]) rfl ⟨pg, rfl, by omega, ((((row.other' (by omega)).other' (by omega)).other' (by omega)).other' (by omega)).other' (by omega), bput (by omega) (bput (by omega) (bput (by omega) (bput (by omega) (bput (by omega) B))))⟩
end Go.Proofs.Ytfkiljhjiogdlaa
