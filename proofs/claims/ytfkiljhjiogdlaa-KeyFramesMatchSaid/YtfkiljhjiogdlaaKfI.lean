/- dyeref1.add, Moved. (printed by gen_kfi.py) -/
import Derived.Test.YtfkiljhjiogdlaaWnJ
import Derived.Test.YtfkiljhjiogdlaaKfD
import Derived.Test.YtfkiljhjiogdlaaKfA
import Derived.Test.YtfkiljhjiogdlaaGrd
namespace Go.Proofs.Ytfkiljhjiogdlaa
open Go.RowKit

theorem ref_add {x y : Nat} {k : Int} (hx : SmB k x) (hy : SmB k y) (hk : k ≤ 100) (w : World) :
    Calls Try.prog 48 #[.float .f32 x, .float .f32 y] w fun e w' => e = .returned (.float .f32 (fop .add x y)) ∧ w = w' := by
  obtain ⟨⟨r1, r2, r3, h1, h2, h3, h4⟩, _⟩ := add_dbl hx hy hk
  generalize fop .add x y = R at *
  have c1 := fun w => run_convert_float_float (P := Try.prog) w 22 109 .f32 .f64 x r1 (by kernel_rfl) Try.underlying109 h1
  have c2 := fun w => run_convert_float_float (P := Try.prog) w 22 109 .f32 .f64 y r2 (by kernel_rfl) Try.underlying109 h2
  have c3 := fun w => run_convert_float_float (P := Try.prog) w 109 22 .f64 .f32 r3 R (by kernel_rfl) Try.underlying22 h4
  have q1 : ∀ w, fres .add .f64 r1 r2 w = r3 := fun w => by unfold fres; rw [h3]
  have q2 : fdr .add .f64 r1 r2 = 0 := by unfold fdr; rw [h3]; rfl
  clear h1 h2 h3 h4 hx hy
  go_enter Try.func48, Try.ntmps48
  go_wp2_with fail
  go_ret
  exact ⟨rfl, rfl⟩

set_option maxRecDepth 100000 in
set_option maxHeartbeats 8000000 in
theorem ref_Moved_err (kind : Int) (X Y Wd H S : Nat) (pa : Option Addr) (n c : Nat) (ps : List (Int × Int)) (out : Bool) (dx dy : Int) (W : World) (hs : SlP W (.slice pa n c) ps) (E : Int) (hE : winErr kind X Y Wd H S ps = E) (h0 : E ≠ 0) (qs : List (Int × Int)) (X' Y' : Nat) : Calls Try.prog 15 #[.agg #[.int .i64 kind, .float .f32 X, .float .f32 Y, .float .f32 Wd, .float .f32 H, .float .f32 S, .slice pa n c, .bool out], .int .i64 dx, .int .i64 dy] W (MovR kind X' Y' Wd H S qs out E W.heap.size W) := by
  have HW : Hid (∀ w, SlP w (.slice pa n c) ps → Calls Try.prog 33 #[.agg #[.int .i64 kind, .float .f32 X, .float .f32 Y, .float .f32 Wd, .float .f32 H, .float .f32 S, .slice pa n c, .bool out]] w fun e w' => e = .returned (.int .i64 E) ∧ Below w.heap.size w w') := Lib.hid fun w h => by rw [← hE]; exact ref_WindowError kind X Y Wd H S _ ps out w h
  have HS := Lib.hid hs
  have e0 : (E != 0) = true := by simpa using h0
  have H0 := Lib.hid h0
  clear hs hE h0
  go_enter Try.func15, Try.ntmps15
  go_upto_region 1 with fail
  refine name_world ?_
  intro w0 hw0
  have x3 : Bx w0 W.heap.size 25 #[.int .i64 kind, .float .f32 X, .float .f32 Y, .float .f32 Wd, .float .f32 H, .float .f32 S, .slice pa n c, .bool out] := by rw [hw0]; exact (Bx.new _ _ _).alloc _
  have x6 : Bx w0 (W.heap.size + 1) 25 #[.int .i64 0, .float .f32 0, .float .f32 0, .float .f32 0, .float .f32 0, .float .f32 0, .slice none 0 0, .bool false] := by rw [hw0]; exact Bx.at _ (by simp)
  have B : Below W.heap.size W w0 := by rw [hw0]; exact bnew (bnew (Below.refl _ W))
  clear hw0
  obtain ⟨q3, f3, l3⟩ := x3.all
  obtain ⟨q6, f6, l6⟩ := x6.all
  go_wp2_with fail
  refine (HW.out _ (HS.out.keep B)).mono ?_
  rintro e w1 ⟨rfl, hb⟩
  replace x3 := x3.keep hb
  replace x6 := x6.keep hb
  replace B := bcall B hb
  clear hb q3 f3 l3 q6 f6 l6
  obtain ⟨q3, f3, l3⟩ := x3.all
  obtain ⟨q6, f6, l6⟩ := x6.all
  go_wp2_with fail
  refine bodyPost_ret (v := .tuple #[.agg #[.int .i64 0, .float .f32 0, .float .f32 0, .float .f32 0, .float .f32 0, .float .f32 0, .slice none 0 0, .bool false], .int .i64 E]) (by simp [results, Try.results15, go_sem, q6]) rfl ⟨.inl ⟨H0.out, rfl⟩, ?_⟩
  exact bput (by omega) (bput (by omega) (bput (by omega) (bput (by omega) (bput (by omega) (bput (by omega) (bput (by omega) (bput (by omega) (B))))))))

set_option maxRecDepth 100000 in
set_option maxHeartbeats 8000000 in
theorem ref_Moved_far (kind : Int) (X Y Wd H S : Nat) (pa : Option Addr) (n c : Nat) (ps : List (Int × Int)) (out : Bool) (dx dy : Int) (W : World) (hs : SlP W (.slice pa n c) ps) (hE : winErr kind X Y Wd H S ps = 0) (h0 : plB dx = false ∨ plB dy = false) (qs : List (Int × Int)) (X' Y' : Nat) : Calls Try.prog 15 #[.agg #[.int .i64 kind, .float .f32 X, .float .f32 Y, .float .f32 Wd, .float .f32 H, .float .f32 S, .slice pa n c, .bool out], .int .i64 dx, .int .i64 dy] W (MovR kind X' Y' Wd H S qs out 3 W.heap.size W) := by
  have HW : Hid (∀ w, SlP w (.slice pa n c) ps → Calls Try.prog 33 #[.agg #[.int .i64 kind, .float .f32 X, .float .f32 Y, .float .f32 Wd, .float .f32 H, .float .f32 S, .slice pa n c, .bool out]] w fun e w' => e = .returned (.int .i64 0) ∧ Below w.heap.size w w') := Lib.hid fun w h => by rw [← hE]; exact ref_WindowError kind X Y Wd H S _ ps out w h
  have HS := Lib.hid hs
  cases hp : plB dx
  · have HP : Hid (∀ w, Calls Try.prog 47 #[.int .i64 dx] w fun e w' => e = .returned (.bool true) ∧ w = w') := Lib.hid fun w => by have := ref_far dx w; rw [hp] at this; exact this
    clear hs hE h0 hp
    go_enter Try.func15, Try.ntmps15
    go_upto_region 1 with fail
    refine name_world ?_
    intro w0 hw0
    have x3 : Bx w0 W.heap.size 25 #[.int .i64 kind, .float .f32 X, .float .f32 Y, .float .f32 Wd, .float .f32 H, .float .f32 S, .slice pa n c, .bool out] := by rw [hw0]; exact (Bx.new _ _ _).alloc _
    have x6 : Bx w0 (W.heap.size + 1) 25 #[.int .i64 0, .float .f32 0, .float .f32 0, .float .f32 0, .float .f32 0, .float .f32 0, .slice none 0 0, .bool false] := by rw [hw0]; exact Bx.at _ (by simp)
    have B : Below W.heap.size W w0 := by rw [hw0]; exact bnew (bnew (Below.refl _ W))
    clear hw0
    obtain ⟨q3, f3, l3⟩ := x3.all
    obtain ⟨q6, f6, l6⟩ := x6.all
    go_wp2_with fail
    refine (HW.out _ (HS.out.keep B)).mono ?_
    rintro e w1 ⟨rfl, hb⟩
    replace x3 := x3.keep hb
    replace x6 := x6.keep hb
    replace B := bcall B hb
    clear hb q3 f3 l3 q6 f6 l6
    obtain ⟨q3, f3, l3⟩ := x3.all
    obtain ⟨q6, f6, l6⟩ := x6.all
    go_wp2_with fail
    refine (HP.out _).mono ?_
    rintro e w2 ⟨rfl, rfl⟩
    go_wp2_with fail
    refine bodyPost_ret (v := .tuple #[.agg #[.int .i64 0, .float .f32 0, .float .f32 0, .float .f32 0, .float .f32 0, .float .f32 0, .slice none 0 0, .bool false], .int .i64 3]) (by simp [results, Try.results15, go_sem, q6]) rfl ⟨.inl ⟨by decide, rfl⟩, ?_⟩
    exact bput (by omega) (bput (by omega) (bput (by omega) (bput (by omega) (bput (by omega) (bput (by omega) (bput (by omega) (bput (by omega) (B))))))))

  · obtain hq : plB dy = false := by rcases h0 with h | h; rw [hp] at h; cases h; exact h
    have HP : Hid (∀ w, Calls Try.prog 47 #[.int .i64 dx] w fun e w' => e = .returned (.bool false) ∧ w = w') := Lib.hid fun w => by have := ref_far dx w; rw [hp] at this; exact this
    have HQ : Hid (∀ w, Calls Try.prog 47 #[.int .i64 dy] w fun e w' => e = .returned (.bool true) ∧ w = w') := Lib.hid fun w => by have := ref_far dy w; rw [hq] at this; exact this
    clear hs hE h0 hp hq
    go_enter Try.func15, Try.ntmps15
    go_upto_region 1 with fail
    refine name_world ?_
    intro w0 hw0
    have x3 : Bx w0 W.heap.size 25 #[.int .i64 kind, .float .f32 X, .float .f32 Y, .float .f32 Wd, .float .f32 H, .float .f32 S, .slice pa n c, .bool out] := by rw [hw0]; exact (Bx.new _ _ _).alloc _
    have x6 : Bx w0 (W.heap.size + 1) 25 #[.int .i64 0, .float .f32 0, .float .f32 0, .float .f32 0, .float .f32 0, .float .f32 0, .slice none 0 0, .bool false] := by rw [hw0]; exact Bx.at _ (by simp)
    have B : Below W.heap.size W w0 := by rw [hw0]; exact bnew (bnew (Below.refl _ W))
    clear hw0
    obtain ⟨q3, f3, l3⟩ := x3.all
    obtain ⟨q6, f6, l6⟩ := x6.all
    go_wp2_with fail
    refine (HW.out _ (HS.out.keep B)).mono ?_
    rintro e w1 ⟨rfl, hb⟩
    replace x3 := x3.keep hb
    replace x6 := x6.keep hb
    replace B := bcall B hb
    clear hb q3 f3 l3 q6 f6 l6
    obtain ⟨q3, f3, l3⟩ := x3.all
    obtain ⟨q6, f6, l6⟩ := x6.all
    go_wp2_with fail
    refine (HP.out _).mono ?_
    rintro e w2 ⟨rfl, rfl⟩
    go_wp2_with fail
    refine (HQ.out _).mono ?_
    rintro e w2 ⟨rfl, rfl⟩
    go_wp2_with fail
    refine bodyPost_ret (v := .tuple #[.agg #[.int .i64 0, .float .f32 0, .float .f32 0, .float .f32 0, .float .f32 0, .float .f32 0, .slice none 0 0, .bool false], .int .i64 3]) (by simp [results, Try.results15, go_sem, q6]) rfl ⟨.inl ⟨by decide, rfl⟩, ?_⟩
    exact bput (by omega) (bput (by omega) (bput (by omega) (bput (by omega) (bput (by omega) (bput (by omega) (bput (by omega) (bput (by omega) (B))))))))


set_option maxRecDepth 100000 in
set_option maxHeartbeats 8000000 in
theorem ref_Moved_flat (kind : Int) (X Y Wd H S : Nat) (pa : Option Addr) (n c : Nat) (ps : List (Int × Int)) (out : Bool) (dx dy : Int) (W : World) (hs : SlP W (.slice pa n c) ps) (E : Int) (hE : winErr kind X Y Wd H S ps = 0) (hk : kind ≠ 3) (hp1 : plB dx = true) (hp2 : plB dy = true) (XX YY : Nat) (hX : fop .add X (floatOfInt .f32 dx) = XX) (hY : fop .add Y (floatOfInt .f32 dy) = YY) (hE2 : winErr kind XX YY Wd H S [] = E) : Calls Try.prog 15 #[.agg #[.int .i64 kind, .float .f32 X, .float .f32 Y, .float .f32 Wd, .float .f32 H, .float .f32 S, .slice pa n c, .bool out], .int .i64 dx, .int .i64 dy] W (MovR kind XX YY Wd H S [] out E W.heap.size W) := by
  obtain ⟨sx, sy, -⟩ := win_smb hE
  have hps : ps = [] := by rcases win_len hE with h | h; exact absurd h.1 hk; exact List.eq_nil_of_length_eq_zero h.2
  subst hps
  have hd1 := plB_iff.1 hp1
  have hd2 := plB_iff.1 hp2
  have HAX : Hid (∀ w, Calls Try.prog 48 #[.float .f32 X, .float .f32 (floatOfInt .f32 dx)] w fun e w' => e = .returned (.float .f32 XX) ∧ w = w') := Lib.hid fun w => by rw [← hX]; exact ref_add sx (ofInt_smb hd1.1 hd1.2) (by omega) w
  have HAY : Hid (∀ w, Calls Try.prog 48 #[.float .f32 Y, .float .f32 (floatOfInt .f32 dy)] w fun e w' => e = .returned (.float .f32 YY) ∧ w = w') := Lib.hid fun w => by rw [← hY]; exact ref_add sy (ofInt_smb hd2.1 hd2.2) (by omega) w
  obtain ⟨fx, hfx⟩ : ∃ f, floatOfInt .f32 dx = f := ⟨_, rfl⟩
  obtain ⟨fy, hfy⟩ : ∃ f, floatOfInt .f32 dy = f := ⟨_, rfl⟩
  rw [hfx] at HAX
  rw [hfy] at HAY
  have Hfx := Lib.hid hfx
  have Hfy := Lib.hid hfy
  have k4 : (kind != 3) = true := by simpa using hk
  obtain ⟨qs, hqs⟩ : ∃ qs : List (Int × Int), qs = [] := ⟨_, rfl⟩
  rw [← hqs] at hE2 ⊢
  have hN : ([] : List (Int × Int)).length ≤ 1000 := by simp
  obtain ⟨ps, hps⟩ : ∃ ps : List (Int × Int), ps = [] := ⟨_, rfl⟩
  rw [← hps] at hs hE hN
  have HW : Hid (∀ w, SlP w (.slice pa n c) ps → Calls Try.prog 33 #[.agg #[.int .i64 kind, .float .f32 X, .float .f32 Y, .float .f32 Wd, .float .f32 H, .float .f32 S, .slice pa n c, .bool out]] w fun e w' => e = .returned (.int .i64 0) ∧ Below w.heap.size w w') := Lib.hid fun w h => by rw [← hE]; exact ref_WindowError kind X Y Wd H S _ ps out w h
  have HS := Lib.hid hs
  have HW2 : Hid (∀ pv w, SlP w pv qs → Calls Try.prog 33 #[.agg #[.int .i64 kind, .float .f32 XX, .float .f32 YY, .float .f32 Wd, .float .f32 H, .float .f32 S, pv, .bool out]] w fun e w' => e = .returned (.int .i64 E) ∧ Below w.heap.size w w') := Lib.hid fun pv w h => by rw [← hE2]; exact ref_WindowError kind XX YY Wd H S _ qs out w h
  have HC : Hid (∀ w, SlP w (.slice pa n c) ps → Calls Try.prog 49 #[.slice pa n c] w fun e w' => ∃ v', e = .returned v' ∧ CopyP w' w.heap.size v' ps ∧ Below w.heap.size w w') := Lib.hid fun w h => clone_points _ ps w (by omega) h
  have HP : Hid (∀ w, Calls Try.prog 47 #[.int .i64 dx] w fun e w' => e = .returned (.bool false) ∧ w = w') := Lib.hid fun w => by have := ref_far dx w; rw [hp1] at this; exact this
  have HQ : Hid (∀ w, Calls Try.prog 47 #[.int .i64 dy] w fun e w' => e = .returned (.bool false) ∧ w = w') := Lib.hid fun w => by have := ref_far dy w; rw [hp2] at this; exact this
  have HQS := Lib.hid hqs
  have HPS := Lib.hid hps
  clear hs hE hE2 hX hY hk hqs hp1 hp2 hps hN hd1 hd2 sx sy hfx hfy
  go_enter Try.func15, Try.ntmps15
  go_upto_region 1 with fail
  refine name_world ?_
  intro w0 hw0
  have x3 : Bx w0 W.heap.size 25 #[.int .i64 kind, .float .f32 X, .float .f32 Y, .float .f32 Wd, .float .f32 H, .float .f32 S, .slice pa n c, .bool out] := by rw [hw0]; exact (Bx.new _ _ _).alloc _
  have x6 : Bx w0 (W.heap.size + 1) 25 #[.int .i64 0, .float .f32 0, .float .f32 0, .float .f32 0, .float .f32 0, .float .f32 0, .slice none 0 0, .bool false] := by rw [hw0]; exact Bx.at _ (by simp)
  have B : Below W.heap.size W w0 := by rw [hw0]; exact bnew (bnew (Below.refl _ W))
  clear hw0
  obtain ⟨q3, f3, l3⟩ := x3.all
  obtain ⟨q6, f6, l6⟩ := x6.all
  go_wp2_with fail
  refine (HW.out _ (HS.out.keep B)).mono ?_
  rintro e w1 ⟨rfl, hb⟩
  replace x3 := x3.keep hb
  replace x6 := x6.keep hb
  replace B := bcall B hb
  clear hb q3 f3 l3 q6 f6 l6
  obtain ⟨q3, f3, l3⟩ := x3.all
  obtain ⟨q6, f6, l6⟩ := x6.all
  go_wp2_with fail
  refine (HP.out _).mono ?_
  rintro e w2 ⟨rfl, rfl⟩
  go_wp2_with fail
  refine (HQ.out _).mono ?_
  rintro e w2 ⟨rfl, rfl⟩
  go_upto_region 7 with fail
  refine wp_region_grd 11 (fun _ => false) (fun q u w' => u = [.pointer (some ⟨W.heap.size, 1, none⟩), .float .f32 X, .int .i64 dx, .float .f32 fx, .float .f32 XX, .pointer (some ⟨W.heap.size, 2, none⟩), .float .f32 Y, .int .i64 dy, .float .f32 fy, .float .f32 YY, .pointer (some ⟨W.heap.size, 1, none⟩)].getD q undef) (fun _ => false) (fun w' => Below w1.heap.size w1 w') (by kernel_rfl) (by kernel_rfl) (fun _ _ _ _ _ h => h)
    (fun _ _ h e => e.trans (h.mono e.size)) (fun t u a' b' hb h => ?_) (Below.refl _ _).drew ?_ ?_ ?_
  · exact h
  · intro t op ht hlt hop
    clear hlt
    rcases (by omega : t = 0 ∨ t = 1 ∨ t = 2 ∨ t = 3 ∨ t = 4 ∨ t = 5 ∨ t = 6 ∨ t = 7 ∨ t = 8 ∨ t = 9 ∨ t = 10) with rfl | rfl | rfl | rfl | rfl | rfl | rfl | rfl | rfl | rfl | rfl
    all_goals simp only [List.getElem?_cons_zero, List.getElem?_cons_succ, Option.some.injEq] at hop
    all_goals subst hop
    all_goals intro a wx hE hag hdep
    · refine grd_none rfl ?_
      have e0 := slot_eq (hag 3 rfl)
      exact rel_pure _ rfl rfl (by simp [go_sem, e0])
    · refine grd_none rfl ?_
      have e0 := slot_eq (hdep ⟨0, .data⟩ (by simp) rfl)
      have hq := (x3.keep hE).all.1
      exact rel_pure _ rfl rfl (by simp [go_sem, e0, hq])
    · refine grd_none rfl ?_
      have e0 := slot_eq (hag 1 rfl)
      exact rel_pure _ rfl rfl (by simp [go_sem, e0])
    · refine grd_none rfl ?_
      have e0 := slot_eq (hdep ⟨2, .data⟩ (by simp) rfl)
      refine rel_call (f := 41) (args := #[.int .i64 dx]) (run_go_call Try.func41 (by kernel_rfl) (by kernel_rfl) _ _ _ _ _ _ _ _ _ _ (by simp [Act.eval, e0])) rfl ?_
      refine (ref_convW dx fx Hfx.out wx).mono ?_
      rintro e w' ⟨rfl, rfl⟩
      exact ⟨_, rfl, rfl, Below.refl _ _⟩
    · refine grd_none rfl ?_
      have e0 := slot_eq (hdep ⟨1, .data⟩ (by simp) rfl)
      have e1 := slot_eq (hdep ⟨3, .data⟩ (by simp) rfl)
      refine rel_call (f := 48) (args := #[.float .f32 X, .float .f32 fx]) (run_go_call Try.func48 (by kernel_rfl) (by kernel_rfl) _ _ _ _ _ _ _ _ _ _ (by simp [Act.eval, e0, e1])) rfl ?_
      refine (HAX.out wx).mono ?_
      rintro e w' ⟨rfl, rfl⟩
      exact ⟨_, rfl, rfl, Below.refl _ _⟩
    · refine grd_none rfl ?_
      have e0 := slot_eq (hag 3 rfl)
      exact rel_pure _ rfl rfl (by simp [go_sem, e0])
    · refine grd_none rfl ?_
      have e0 := slot_eq (hdep ⟨5, .data⟩ (by simp) rfl)
      have hq := (x3.keep hE).all.1
      exact rel_pure _ rfl rfl (by simp [go_sem, e0, hq])
    · refine grd_none rfl ?_
      have e0 := slot_eq (hag 2 rfl)
      exact rel_pure _ rfl rfl (by simp [go_sem, e0])
    · refine grd_none rfl ?_
      have e0 := slot_eq (hdep ⟨7, .data⟩ (by simp) rfl)
      refine rel_call (f := 41) (args := #[.int .i64 dy]) (run_go_call Try.func41 (by kernel_rfl) (by kernel_rfl) _ _ _ _ _ _ _ _ _ _ (by simp [Act.eval, e0])) rfl ?_
      refine (ref_convW dy fy Hfy.out wx).mono ?_
      rintro e w' ⟨rfl, rfl⟩
      exact ⟨_, rfl, rfl, Below.refl _ _⟩
    · refine grd_none rfl ?_
      have e0 := slot_eq (hdep ⟨6, .data⟩ (by simp) rfl)
      have e1 := slot_eq (hdep ⟨8, .data⟩ (by simp) rfl)
      refine rel_call (f := 48) (args := #[.float .f32 Y, .float .f32 fy]) (run_go_call Try.func48 (by kernel_rfl) (by kernel_rfl) _ _ _ _ _ _ _ _ _ _ (by simp [Act.eval, e0, e1])) rfl ?_
      refine (HAY.out wx).mono ?_
      rintro e w' ⟨rfl, rfl⟩
      exact ⟨_, rfl, rfl, Below.refl _ _⟩
    · refine grd_none rfl ?_
      have e0 := slot_eq (hag 3 rfl)
      exact rel_pure _ rfl rfl (by simp [go_sem, e0])
  · intro t op ht hlt; cases hlt
  intro vs wy hE hvs _
  have k4 : vs 4 = .float .f32 XX := hvs 4 (by omega)
  have k9 : vs 9 = .float .f32 YY := hvs 9 (by omega)
  have k10 : vs 10 = .pointer (some ⟨W.heap.size, 1, none⟩) := hvs 10 (by omega)
  simp only [List.drop_succ_cons, List.drop_zero, putAll, dstAt, List.getElem?_toArray, List.getElem?_cons_zero, List.getElem?_cons_succ, Option.bind_some, Act.put, List.setIfInBounds_toArray, List.set_cons_zero, List.set_cons_succ, k4, k9, k10]
  clear hvs k4 k9 k10
  replace x3 := x3.keep hE
  replace x6 := x6.keep hE
  have hsz0 := B.size
  replace B := B.trans (hE.mono hsz0)
  clear hE hsz0 q3 f3 l3 q6 f6 l6
  obtain ⟨q3, f3, l3⟩ := x3.all
  go_upto_region 8 with fail
  refine name_world ?_
  intro w4 hw4
  replace x3 : Bx w4 W.heap.size 25 #[.int .i64 kind, .float .f32 XX, .float .f32 YY, .float .f32 Wd, .float .f32 H, .float .f32 S, .slice pa n c, .bool out] := by rw [hw4]; exact (Bx.set (Bx.set x3 1 _) 2 _)
  replace x6 : Bx w4 (W.heap.size + 1) 25 #[.int .i64 0, .float .f32 0, .float .f32 0, .float .f32 0, .float .f32 0, .float .f32 0, .slice none 0 0, .bool false] := by rw [hw4]; exact (Bx.other (Bx.other x6 _ _ (by first | omega | (simp; done) | (simp; omega))) _ _ (by first | omega | (simp; done) | (simp; omega)))
  replace B : Below W.heap.size W w4 := by rw [hw4]; exact bput (by omega) (bput (by omega) (B))
  clear hw4 q3 f3 l3
  obtain ⟨q3, f3, l3⟩ := x3.all
  obtain ⟨q6, f6, l6⟩ := x6.all
  go_wp2_with fail
  refine (HC.out _ (HS.out.keep B)).mono ?_
  rintro e w2 ⟨v', rfl, hcp, hb⟩
  have hsz1 := B.size
  replace hcp := hcp.mono (show W.heap.size + 2 ≤ _ by omega)
  obtain ⟨ca, cc, rfl⟩ := hcp.sl
  rw [HPS.out] at hcp ⊢
  clear hcp hsz1
  replace x3 := x3.keep hb
  replace x6 := x6.keep hb
  replace B := bcall B hb
  clear hb q3 f3 l3 q6 f6 l6
  obtain ⟨q3, f3, l3⟩ := x3.all
  obtain ⟨q6, f6, l6⟩ := x6.all
  go_upto_region 9 with fail
  refine name_world ?_
  intro w3 hw3
  replace x3 : Bx w3 W.heap.size 25 #[.int .i64 kind, .float .f32 XX, .float .f32 YY, .float .f32 Wd, .float .f32 H, .float .f32 S, .slice ca 0 cc, .bool out] := by rw [hw3]; exact Bx.set x3 6 _
  replace x6 : Bx w3 (W.heap.size + 1) 25 #[.int .i64 0, .float .f32 0, .float .f32 0, .float .f32 0, .float .f32 0, .float .f32 0, .slice none 0 0, .bool false] := by rw [hw3]; exact (Bx.other x6 _ _ (by first | omega | (simp; done) | (simp; omega)))
  replace B : Below W.heap.size W w3 := by rw [hw3]; exact bput (by omega) (B)
  clear hw3 q3 f3 l3 q6 f6 l6
  obtain ⟨q3, f3, l3⟩ := x3.all
  obtain ⟨q6, f6, l6⟩ := x6.all
  go_wp2_with fail
  go_loopw [46] (fun i wr => i = .int .i64 0 ∧ Bx wr W.heap.size 25 #[.int .i64 kind, .float .f32 XX, .float .f32 YY, .float .f32 Wd, .float .f32 H, .float .f32 S, .slice ca 0 cc, .bool out] ∧ Bx wr (W.heap.size + 1) 25 #[.int .i64 0, .float .f32 0, .float .f32 0, .float .f32 0, .float .f32 0, .float .f32 0, .slice none 0 0, .bool false] ∧ Below W.heap.size W wr) (fun _ _ => 0)
  case atStart => exact ⟨rfl, x3, x6, B⟩
  case round =>
    clear x3 x6 B q3 f3 l3 q6 f6 l6
    obtain ⟨rfl, x3, x6, B⟩ := hrel
    obtain ⟨q3, f3, l3⟩ := x3.all
    obtain ⟨q6, f6, l6⟩ := x6.all
    go_wp2_with fail
    refine (HW2.out _ _ (by rw [HQS.out]; exact ⟨_, _, rfl, by simp [maxLen], .inl rfl⟩)).mono ?_
    rintro e w5 ⟨rfl, hb⟩
    replace x3 := x3.keep hb
    replace x6 := x6.keep hb
    replace B := bcall B hb
    clear hb q3 f3 l3 q6 f6 l6
    obtain ⟨q3, f3, l3⟩ := x3.all
    obtain ⟨q6, f6, l6⟩ := x6.all
    by_cases h9 : E = 0
    · subst h9
      go_wp2_with fail
      refine bodyPost_ret (v := .tuple #[.agg #[.int .i64 kind, .float .f32 XX, .float .f32 YY, .float .f32 Wd, .float .f32 H, .float .f32 S, .slice ca 0 cc, .bool out], .int .i64 0]) (by simp [results, Try.results15, go_sem, q6]) rfl ⟨.inr ⟨rfl, ca, cc, by rw [HQS.out]; rfl, by rw [HQS.out]; exact ⟨_, _, rfl, by simp [maxLen], .inl rfl⟩⟩, ?_⟩
      exact bput (by omega) (bput (by omega) (bput (by omega) (bput (by omega) (bput (by omega) (bput (by omega) (bput (by omega) (bput (by omega) (B))))))))
    · have e9 : (E != 0) = true := by simpa using h9
      go_wp2_with fail
      refine bodyPost_ret (v := .tuple #[.agg #[.int .i64 0, .float .f32 0, .float .f32 0, .float .f32 0, .float .f32 0, .float .f32 0, .slice none 0 0, .bool false], .int .i64 E]) (by simp [results, Try.results15, go_sem, q6]) rfl ⟨.inl ⟨h9, rfl⟩, ?_⟩
      exact bput (by omega) (bput (by omega) (bput (by omega) (bput (by omega) (bput (by omega) (bput (by omega) (bput (by omega) (bput (by omega) (B))))))))

set_option maxRecDepth 100000 in
set_option maxHeartbeats 8000000 in
theorem ref_Moved_poly (kind : Int) (X Y Wd H S : Nat) (pa : Option Addr) (n c : Nat) (ps : List (Int × Int)) (out : Bool) (dx dy : Int) (W : World) (hs : SlP W (.slice pa n c) ps) (E : Int) (hE : winErr 3 X Y Wd H S ps = 0) (hk : kind = 3) (hp1 : plB dx = true) (hp2 : plB dy = true) (qs : List (Int × Int)) (hq : qs = ps.map (mov dx dy)) (XX YY : Nat) (hX : X = XX) (hY : Y = YY) (hE2 : winErr kind XX YY Wd H S qs = E) : Calls Try.prog 15 #[.agg #[.int .i64 kind, .float .f32 X, .float .f32 Y, .float .f32 Wd, .float .f32 H, .float .f32 S, .slice pa n c, .bool out], .int .i64 dx, .int .i64 dy] W (MovR kind XX YY Wd H S qs out E W.heap.size W) := by
  subst hk
  subst hX
  subst hY
  obtain ⟨_, _, _, _, _, _, _, hn, hbd⟩ := win_ok hE
  have hne : ps ≠ [] := by rcases win_len hE with ⟨_, h, _⟩ | ⟨h, _⟩; intro h'; rw [h'] at h; simp at h; exact absurd rfl h
  have hd1 := plB_iff.1 hp1
  have hd2 := plB_iff.1 hp2
  have k4 : ((3 : Int) != 3) = false := by decide
  have HW : Hid (∀ w, SlP w (.slice pa n c) ps → Calls Try.prog 33 #[.agg #[.int .i64 3, .float .f32 X, .float .f32 Y, .float .f32 Wd, .float .f32 H, .float .f32 S, .slice pa n c, .bool out]] w fun e w' => e = .returned (.int .i64 0) ∧ Below w.heap.size w w') := Lib.hid fun w h => by rw [← hE]; exact ref_WindowError 3 X Y Wd H S _ ps out w h
  have HS := Lib.hid hs
  have HW2 : Hid (∀ pv w, SlP w pv qs → Calls Try.prog 33 #[.agg #[.int .i64 3, .float .f32 X, .float .f32 Y, .float .f32 Wd, .float .f32 H, .float .f32 S, pv, .bool out]] w fun e w' => e = .returned (.int .i64 E) ∧ Below w.heap.size w w') := Lib.hid fun pv w h => by rw [← hE2]; exact ref_WindowError 3 X Y Wd H S _ qs out w h
  have HC : Hid (∀ w, SlP w (.slice pa n c) ps → Calls Try.prog 49 #[.slice pa n c] w fun e w' => ∃ v', e = .returned v' ∧ CopyP w' w.heap.size v' ps ∧ Below w.heap.size w w') := Lib.hid fun w h => clone_points _ ps w (by omega) h
  have HP : Hid (∀ w, Calls Try.prog 47 #[.int .i64 dx] w fun e w' => e = .returned (.bool false) ∧ w = w') := Lib.hid fun w => by have := ref_far dx w; rw [hp1] at this; exact this
  have HQ : Hid (∀ w, Calls Try.prog 47 #[.int .i64 dy] w fun e w' => e = .returned (.bool false) ∧ w = w') := Lib.hid fun w => by have := ref_far dy w; rw [hp2] at this; exact this
  have HQ2 := Lib.hid hq
  have Hne := Lib.hid hne
  have Hbd := Lib.hid hbd
  obtain ⟨n', hnn⟩ : ∃ n', n' = ps.length := ⟨_, rfl⟩
  have Hn := Lib.hid hnn
  have hn32 : n' ≤ 32 := by omega
  have hnq : Hid (qs.length = n') := Lib.hid (by rw [hq, List.length_map, hnn])
  clear hs hE hE2 hp1 hp2 hbd hnn hn hq hne
  go_enter Try.func15, Try.ntmps15
  go_upto_region 1 with fail
  refine name_world ?_
  intro w0 hw0
  have x3 : Bx w0 W.heap.size 25 #[.int .i64 3, .float .f32 X, .float .f32 Y, .float .f32 Wd, .float .f32 H, .float .f32 S, .slice pa n c, .bool out] := by rw [hw0]; exact (Bx.new _ _ _).alloc _
  have x6 : Bx w0 (W.heap.size + 1) 25 #[.int .i64 0, .float .f32 0, .float .f32 0, .float .f32 0, .float .f32 0, .float .f32 0, .slice none 0 0, .bool false] := by rw [hw0]; exact Bx.at _ (by simp)
  have B : Below W.heap.size W w0 := by rw [hw0]; exact bnew (bnew (Below.refl _ W))
  clear hw0
  obtain ⟨q3, f3, l3⟩ := x3.all
  obtain ⟨q6, f6, l6⟩ := x6.all
  go_wp2_with fail
  refine (HW.out _ (HS.out.keep B)).mono ?_
  rintro e w1 ⟨rfl, hb⟩
  replace x3 := x3.keep hb
  replace x6 := x6.keep hb
  replace B := bcall B hb
  clear hb q3 f3 l3 q6 f6 l6
  obtain ⟨q3, f3, l3⟩ := x3.all
  obtain ⟨q6, f6, l6⟩ := x6.all
  go_wp2_with fail
  refine (HP.out _).mono ?_
  rintro e w2 ⟨rfl, rfl⟩
  go_wp2_with fail
  refine (HQ.out _).mono ?_
  rintro e w2 ⟨rfl, rfl⟩
  go_wp2_with fail
  refine (HC.out _ (HS.out.keep B)).mono ?_
  rintro e w2 ⟨v', rfl, hcp, hb⟩
  have hsz1 := B.size
  replace hcp := hcp.mono (show W.heap.size + 2 ≤ _ by omega)
  rcases hcp with ⟨h0, _⟩ | ⟨_, g, cc, cs, rfl, hg, hx, hcc, hH⟩
  · exact absurd h0 Hne.out
  rw [← Hn.out]
  have hM := HoldsM.start (dx := dx) (dy := dy) hH
  have HM := Lib.hid hM
  unfold maxLen at hcc
  clear hM hH hsz1
  replace x3 := x3.keep hb
  replace x6 := x6.keep hb
  replace B := bcall B hb
  clear hb q3 f3 l3 q6 f6 l6
  obtain ⟨q3, f3, l3⟩ := x3.all
  obtain ⟨q6, f6, l6⟩ := x6.all
  go_upto_region 9 with fail
  refine name_world ?_
  intro w3 hw3
  replace x3 : Bx w3 W.heap.size 25 #[.int .i64 3, .float .f32 X, .float .f32 Y, .float .f32 Wd, .float .f32 H, .float .f32 S, .slice (some ⟨g, 0, none⟩) n' cc, .bool out] := by rw [hw3]; exact Bx.set x3 6 _
  replace x6 : Bx w3 (W.heap.size + 1) 25 #[.int .i64 0, .float .f32 0, .float .f32 0, .float .f32 0, .float .f32 0, .float .f32 0, .slice none 0 0, .bool false] := by rw [hw3]; exact (Bx.other x6 _ _ (by first | omega | (simp; done) | (simp; omega)))
  replace hx : Bx w3 g 71 cs := by rw [hw3]; exact (Bx.other hx _ _ (by first | omega | (simp; done) | (simp; omega)))
  replace B : Below W.heap.size W w3 := by rw [hw3]; exact bput (by omega) (B)
  clear hw3 q3 f3 l3 q6 f6 l6
  obtain ⟨q3, f3, l3⟩ := x3.all
  obtain ⟨q6, f6, l6⟩ := x6.all
  go_wp2_with fail
  go_loopw [46] (fun i wr => ∃ k cs, k ≤ n' ∧ i = .int .i64 ((k : Nat) : Int) ∧ Bx wr g 71 cs ∧ Hid (HoldsM cs ps dx dy k) ∧ Bx wr W.heap.size 25 #[.int .i64 3, .float .f32 X, .float .f32 Y, .float .f32 Wd, .float .f32 H, .float .f32 S, .slice (some ⟨g, 0, none⟩) n' cc, .bool out] ∧ Bx wr (W.heap.size + 1) 25 #[.int .i64 0, .float .f32 0, .float .f32 0, .float .f32 0, .float .f32 0, .float .f32 0, .slice none 0 0, .bool false] ∧ Below W.heap.size W wr) (fun i _ => n' - (intOf i).toNat)
  case atStart => exact ⟨0, cs, by omega, rfl, hx, HM, x3, x6, B⟩
  case round =>
    clear hx HM x3 x6 B q3 f3 l3 q6 f6 l6 cs
    obtain ⟨k, cs, hk, rfl, hx, HM, x3, x6, B⟩ := hrel
    obtain ⟨q3, f3, l3⟩ := x3.all
    obtain ⟨q6, f6, l6⟩ := x6.all
    obtain ⟨qg, fg, lg⟩ := hx.all
    by_cases hlt : k < n'
    · obtain ⟨z1, z2⟩ := HM.out k (by rw [← Hn.out]; exact hlt)
      have hst := HM.out.step (by rw [← Hn.out]; exact hlt)
      obtain ⟨p1, p2, p3, p4⟩ := Hbd.out k (by rw [← Hn.out]; exact hlt)
      rw [if_neg (by omega)] at z1 z2
      rw [Int.add_zero] at z1 z2
      have HS2 := Lib.hid hst
      clear hst HM
      generalize (ps.getD k default).1 = px at *
      generalize (ps.getD k default).2 = py at *
      have e1 : wr.cell? ⟨g, k * 2, none⟩ = _ := (qg _).trans z1
      have e2 : wr.cell? ⟨g, k * 2 + 1, none⟩ = _ := (qg _).trans z2
      have fe1 := fg (k * 2)
      go_upto_region 13 with fail
      refine name_world ?_
      intro w4 hw4
      have x3' : Bx w4 W.heap.size 25 #[.int .i64 3, .float .f32 X, .float .f32 Y, .float .f32 Wd, .float .f32 H, .float .f32 S, .slice (some ⟨g, 0, none⟩) n' cc, .bool out] := by rw [hw4]; exact (Bx.other x3 _ _ (by first | omega | (simp; done) | (simp; omega)))
      have x6' : Bx w4 (W.heap.size + 1) 25 #[.int .i64 0, .float .f32 0, .float .f32 0, .float .f32 0, .float .f32 0, .float .f32 0, .slice none 0 0, .bool false] := by rw [hw4]; exact (Bx.other x6 _ _ (by first | omega | (simp; done) | (simp; omega)))
      have hx' := Bx.set hx (k * 2) (.int .i64 (px + dx))
      have e2' : w4.cell? ⟨g, k * 2 + 1, none⟩ = some (.int .i64 py) := by rw [hw4, hx'.all.1, Array.getElem?_setIfInBounds, if_neg (by omega)]; exact z2
      rw [← hw4] at hx'
      have B' : Below W.heap.size W w4 := by rw [hw4]; exact bput (by omega) (B)
      clear hw4 q3 f3 l3 q6 f6 l6 qg fg lg e1 e2 fe1 x3 x6 hx B
      obtain ⟨q3, f3, l3⟩ := x3'.all
      obtain ⟨q6, f6, l6⟩ := x6'.all
      obtain ⟨qg, fg, lg⟩ := hx'.all
      have fe2 := fg (k * 2 + 1)
      go_wp2_with fail
      go_roundw
      case rel => exact ⟨k + 1, _, by omega, by go_num, Bx.set hx' (k * 2 + 1) (.int .i64 (py + dy)), HS2, (Bx.other x3' _ _ (by first | omega | (simp; done) | (simp; omega))), (Bx.other x6' _ _ (by first | omega | (simp; done) | (simp; omega))), bput (by omega) (B')⟩
      case measure => simp [intOf]; omega
    · obtain rfl : k = n' := by omega
      have hf : Hid (HoldsP cs qs) := Lib.hid (by rw [HQ2.out]; exact HoldsM.full (by rw [← Hn.out]; exact HM.out))
      clear HM
      go_wp2_with fail
      refine (HW2.out _ _ (by rw [← hnq.out]; exact hf.out.slP hx (by rw [hnq.out]; unfold maxLen; omega) cc)).mono ?_
      rintro e w5 ⟨rfl, hb⟩
      replace hx := hx.keep hb
      replace x3 := x3.keep hb
      replace x6 := x6.keep hb
      replace B := bcall B hb
      clear hb q3 f3 l3 q6 f6 l6
      obtain ⟨q3, f3, l3⟩ := x3.all
      obtain ⟨q6, f6, l6⟩ := x6.all
      by_cases h9 : E = 0
      · subst h9
        go_wp2_with fail
        refine bodyPost_ret (v := .tuple #[.agg #[.int .i64 3, .float .f32 X, .float .f32 Y, .float .f32 Wd, .float .f32 H, .float .f32 S, .slice (some ⟨g, 0, none⟩) k cc, .bool out], .int .i64 0]) (by simp [results, Try.results15, go_sem, q6]) rfl ⟨.inr ⟨rfl, _, cc, by rw [hnq.out], hf.out.slP (Bx.other (Bx.other (Bx.other (Bx.other (Bx.other (Bx.other (Bx.other (Bx.other hx _ _ (by first | omega | (simp; done) | (simp; omega))) _ _ (by first | omega | (simp; done) | (simp; omega))) _ _ (by first | omega | (simp; done) | (simp; omega))) _ _ (by first | omega | (simp; done) | (simp; omega))) _ _ (by first | omega | (simp; done) | (simp; omega))) _ _ (by first | omega | (simp; done) | (simp; omega))) _ _ (by first | omega | (simp; done) | (simp; omega))) _ _ (by first | omega | (simp; done) | (simp; omega))) (by rw [hnq.out]; unfold maxLen; omega) cc⟩, ?_⟩
        exact bput (by omega) (bput (by omega) (bput (by omega) (bput (by omega) (bput (by omega) (bput (by omega) (bput (by omega) (bput (by omega) (B))))))))
      · have e9 : (E != 0) = true := by simpa using h9
        go_wp2_with fail
        refine bodyPost_ret (v := .tuple #[.agg #[.int .i64 0, .float .f32 0, .float .f32 0, .float .f32 0, .float .f32 0, .float .f32 0, .slice none 0 0, .bool false], .int .i64 E]) (by simp [results, Try.results15, go_sem, q6]) rfl ⟨.inl ⟨h9, rfl⟩, ?_⟩
        exact bput (by omega) (bput (by omega) (bput (by omega) (bput (by omega) (bput (by omega) (bput (by omega) (bput (by omega) (bput (by omega) (B))))))))

theorem ref_Moved (kind : Int) (X Y Wd H S : Nat) (pa : Option Addr) (n c : Nat) (ps : List (Int × Int)) (out : Bool) (dx dy : Int) (W : World) (hs : SlP W (.slice pa n c) ps) :
    Calls Try.prog 15 #[.agg #[.int .i64 kind, .float .f32 X, .float .f32 Y, .float .f32 Wd, .float .f32 H, .float .f32 S, .slice pa n c, .bool out], .int .i64 dx, .int .i64 dy] W
      (MovR kind (movX kind X dx) (movX kind Y dy) Wd H S (ps.map (mov dx dy)) out (movErr kind X Y Wd H S ps dx dy) W.heap.size W) := by
  by_cases h0 : winErr kind X Y Wd H S ps = 0
  · by_cases hp : plB dx = false ∨ plB dy = false
    · rw [show movErr kind X Y Wd H S ps dx dy = 3 by unfold movErr; rw [if_neg (by simp [h0]), if_pos hp]]
      exact ref_Moved_far kind X Y Wd H S pa n c ps out dx dy W hs h0 hp _ _ _
    · have hp1 : plB dx = true := by cases h : plB dx; exact absurd (.inl h) hp; rfl
      have hp2 : plB dy = true := by cases h : plB dy; exact absurd (.inr h) hp; rfl
      rw [show movErr kind X Y Wd H S ps dx dy = winErr kind (movX kind X dx) (movX kind Y dy) Wd H S (ps.map (mov dx dy)) by unfold movErr; rw [if_neg (by simp [h0]), if_neg hp]]
      by_cases hk : kind = 3
      · have e : ∀ Z d, movX kind Z d = Z := fun Z d => by unfold movX; rw [if_pos hk]
        rw [e, e]
        exact ref_Moved_poly kind X Y Wd H S pa n c ps out dx dy W hs _ (by rw [← hk]; exact h0) hk hp1 hp2 _ rfl X Y rfl rfl rfl
      · have hps : ps = [] := by rcases win_len h0 with h | h; exact absurd h.1 hk; exact List.eq_nil_of_length_eq_zero h.2
        subst hps
        have e : ∀ Z d, movX kind Z d = fop .add Z (floatOfInt .f32 d) := fun Z d => by unfold movX; rw [if_neg hk]
        rw [e, e]
        exact ref_Moved_flat kind X Y Wd H S pa n c [] out dx dy W hs _ h0 hk hp1 hp2 _ _ rfl rfl rfl
  · rw [show movErr kind X Y Wd H S ps dx dy = winErr kind X Y Wd H S ps by unfold movErr; rw [if_pos h0]]
    exact ref_Moved_err kind X Y Wd H S pa n c ps out dx dy W hs _ rfl h0 _ _ _


end Go.Proofs.Ytfkiljhjiogdlaa
