/- grade.Apply of a neutral right grade: the pixel's numbers are the same. (printed by gen_num.py) -/
import Derived.Test.YticekgnmiaidjaaGreatDoorNuJ
import Derived.Test.YticekgnmiaidjaaGreatDoorNuB
import Derived.Test.YticekgnmiaidjaaGreatDoorFfJ
import Derived.Test.YticekgnmiaidjaaGreatDoorGnN
import Derived.Test.YticekgnmiaidjaaGreatDoorGnK
namespace Go.Proofs.YticekgnmiaidjaaGreatDoor

section
open Go.RowKit Go.Lib

set_option maxRecDepth 100000 in
set_option maxHeartbeats 4000000 in
theorem printer_0 (p2 v : Nat) (u : World) (hx : Bx u p2 44 #[.int .i64 25, .int .i64 25, .int .i64 25]) (hv : v < 4294967296) (hn : isNum v = true) :
    Calls Tryz.prog 128 #[.int .i64 0, .float .f32 v, .pointer (some ⟨p2, 0, none⟩)] u fun e u' => (∃ r, e = .returned (.float .f32 r) ∧ canon r = fop .mul v 1065353216) ∧ Below u.heap.size u u' := by
  obtain ⟨y2, h2⟩ : ∃ y, fop .mul v 1065353216 = y := ⟨_, rfl⟩
  have n2 : Nb v y2 := by rw [← h2]; exact nb_mul hv hn (.inl rfl)
  have q2 := run_of (.inr (.inr (.inl rfl))) h2 (nb_nn hn n2)
  have q1 := fun (w : World) (t : TypeId) => run_float_arith (P := Tryz.prog) w .quo t .f32 0 1094713344 0 (by decide)
  have c0 : floatOfInt .f32 0 = 0 := by decide
  have HV : Hid (canon y2 = fop .mul v 1065353216) := Lib.hid (by rw [h2]; exact nb_num hn n2)
  have z0 := hx.all.1 0
  simp only [List.getElem?_toArray, List.getElem?_cons_zero, List.getElem?_cons_succ] at z0
  clear n2 h2 hv hn hx
  go_enter Tryz.func128, Tryz.ntmps128
  go_wp2_with (go_at_call 129; refine (num_Exp2_0 _).mono ?_; rintro e w' ⟨rfl, rfl⟩)
  go_ret
  refine ⟨⟨y2, rfl, HV.out⟩, ?_⟩
  repeat (refine below_drewN ?_ _)
  exact Below.refl _ _
set_option maxRecDepth 100000 in
set_option maxHeartbeats 4000000 in
theorem printer_1 (p2 v : Nat) (u : World) (hx : Bx u p2 44 #[.int .i64 25, .int .i64 25, .int .i64 25]) (hv : v < 4294967296) (hn : isNum v = true) :
    Calls Tryz.prog 128 #[.int .i64 1, .float .f32 v, .pointer (some ⟨p2, 0, none⟩)] u fun e u' => (∃ r, e = .returned (.float .f32 r) ∧ canon r = fop .mul v 1065353216) ∧ Below u.heap.size u u' := by
  obtain ⟨y2, h2⟩ : ∃ y, fop .mul v 1065353216 = y := ⟨_, rfl⟩
  have n2 : Nb v y2 := by rw [← h2]; exact nb_mul hv hn (.inl rfl)
  have q2 := run_of (.inr (.inr (.inl rfl))) h2 (nb_nn hn n2)
  have q1 := fun (w : World) (t : TypeId) => run_float_arith (P := Tryz.prog) w .quo t .f32 0 1094713344 0 (by decide)
  have c0 : floatOfInt .f32 0 = 0 := by decide
  have HV : Hid (canon y2 = fop .mul v 1065353216) := Lib.hid (by rw [h2]; exact nb_num hn n2)
  have z1 := hx.all.1 1
  simp only [List.getElem?_toArray, List.getElem?_cons_zero, List.getElem?_cons_succ] at z1
  clear n2 h2 hv hn hx
  go_enter Tryz.func128, Tryz.ntmps128
  go_wp2_with (go_at_call 129; refine (num_Exp2_0 _).mono ?_; rintro e w' ⟨rfl, rfl⟩)
  go_ret
  refine ⟨⟨y2, rfl, HV.out⟩, ?_⟩
  repeat (refine below_drewN ?_ _)
  exact Below.refl _ _
set_option maxRecDepth 100000 in
set_option maxHeartbeats 4000000 in
theorem printer_2 (p2 v : Nat) (u : World) (hx : Bx u p2 44 #[.int .i64 25, .int .i64 25, .int .i64 25]) (hv : v < 4294967296) (hn : isNum v = true) :
    Calls Tryz.prog 128 #[.int .i64 2, .float .f32 v, .pointer (some ⟨p2, 0, none⟩)] u fun e u' => (∃ r, e = .returned (.float .f32 r) ∧ canon r = fop .mul v 1065353216) ∧ Below u.heap.size u u' := by
  obtain ⟨y2, h2⟩ : ∃ y, fop .mul v 1065353216 = y := ⟨_, rfl⟩
  have n2 : Nb v y2 := by rw [← h2]; exact nb_mul hv hn (.inl rfl)
  have q2 := run_of (.inr (.inr (.inl rfl))) h2 (nb_nn hn n2)
  have q1 := fun (w : World) (t : TypeId) => run_float_arith (P := Tryz.prog) w .quo t .f32 0 1094713344 0 (by decide)
  have c0 : floatOfInt .f32 0 = 0 := by decide
  have HV : Hid (canon y2 = fop .mul v 1065353216) := Lib.hid (by rw [h2]; exact nb_num hn n2)
  have z2 := hx.all.1 2
  simp only [List.getElem?_toArray, List.getElem?_cons_zero, List.getElem?_cons_succ] at z2
  clear n2 h2 hv hn hx
  go_enter Tryz.func128, Tryz.ntmps128
  go_wp2_with (go_at_call 129; refine (num_Exp2_0 _).mono ?_; rintro e w' ⟨rfl, rfl⟩)
  go_ret
  refine ⟨⟨y2, rfl, HV.out⟩, ?_⟩
  repeat (refine below_drewN ?_ _)
  exact Below.refl _ _
set_option maxRecDepth 100000 in
set_option maxHeartbeats 8000000 in
theorem grade_PrinterN (a b c d : Nat) (W : World) (hP : Px4 a b c d) : Calls Tryz.prog 98 #[.agg #[.int .i64 25, .int .i64 25, .int .i64 25], .agg #[.float .f32 a, .float .f32 b, .float .f32 c, .float .f32 d]] W fun e w' => (∃ q0 q1 q2 q3, e = .returned (.tuple #[.agg #[.float .f32 q0, .float .f32 q1, .float .f32 q2, .float .f32 q3], .int .i64 0]) ∧ eqL [q0, q1, q2, q3] [a, b, c, d] = true) ∧ Below W.heap.size W w' := by
  go_enter Tryz.func98, Tryz.ntmps98
  go_upto_region 1 with fail
  refine name_world ?_
  intro wb hwb
  have x2 : Hid (Bx wb W.heap.size 44 #[.int .i64 25, .int .i64 25, .int .i64 25]) := Lib.hid (by rw [hwb]; exact Bx.alloc (Bx.alloc (Bx.new _ _ _) _) _)
  have x3 : Hid (Bx wb (W.heap.size + 1) 25 #[.float .f32 a, .float .f32 b, .float .f32 c, .float .f32 d]) := Lib.hid (by rw [hwb]; exact Bx.alloc (Bx.at _ (by simp)) _)
  have x4 : Hid (Bx wb (W.heap.size + 1 + 1) 25 #[.float .f32 0, .float .f32 0, .float .f32 0, .float .f32 0]) := Lib.hid (by rw [hwb]; exact Bx.at _ (by simp))
  have B : Hid (Below W.heap.size W wb) := Lib.hid (by rw [hwb]; exact bnew (bnew (bnew (Below.refl _ W))))
  obtain ⟨p2, hp2⟩ : ∃ p, W.heap.size = p := ⟨_, rfl⟩
  have HP2 := Lib.hid hp2
  rw [hp2] at x2 x3 x4 ⊢
  clear hwb hp2
  obtain ⟨p3, hp3⟩ : ∃ p, p2 + 1 = p := ⟨_, rfl⟩
  have h3 : p2 < p3 := by omega
  rw [hp3] at x3 x4 ⊢
  clear hp3
  obtain ⟨p4, hp4⟩ : ∃ p, p3 + 1 = p := ⟨_, rfl⟩
  have h4 : p3 < p4 := by omega
  rw [hp4] at x4 ⊢
  clear hp4
  have y0 := x3.out.all.1 0
  have y1 := x3.out.all.1 1
  have y2 := x3.out.all.1 2
  have y3 := x3.out.all.1 3
  simp only [List.getElem?_toArray, List.getElem?_cons_zero, List.getElem?_cons_succ] at y0 y1 y2 y3
  have v0 := x2.out.all.1 0
  have v1 := x2.out.all.1 1
  have v2 := x2.out.all.1 2
  simp only [List.getElem?_toArray, List.getElem?_cons_zero, List.getElem?_cons_succ] at v0 v1 v2
  go_wp2_with fail
  refine (grade_checkPoints #[.int .i64 25, .int .i64 25, .int .i64 25] [25, 25, 25] rfl rfl (fun k hk => by rcases (by omega : k = 0 ∨ k = 1 ∨ k = 2) with rfl | rfl | rfl <;> rfl) _).mono ?_
  rintro e w1 ⟨rfl, hb1⟩
  rw [show ptsErr [25, 25, 25] = 0 by decide]
  have HB1 := Lib.hid hb1
  have u0 := (x3.out.keep hb1).all.1 0
  have u1 := (x3.out.keep hb1).all.1 1
  have u2 := (x3.out.keep hb1).all.1 2
  have u3 := (x3.out.keep hb1).all.1 3
  simp only [List.getElem?_toArray, List.getElem?_cons_zero, List.getElem?_cons_succ] at u0 u1 u2 u3
  clear v0 v1 v2 hb1 y0 y1 y2 y3
  go_wp2_with fail
  refine (grade_three 128 #[.pointer (some ⟨p2, 0, none⟩)] a b c d (fop .mul a 1065353216) (fop .mul b 1065353216) (fop .mul c 1065353216) _ ⟨fun args u => enters Tryz.func128 (by kernel_rfl) (by kernel_rfl) _ _, fun u hb => by simpa using printer_0 p2 a u ((x2.out.keep HB1.out).keep hb) hP.ha hP.na, fun u hb => by simpa using printer_1 p2 b u ((x2.out.keep HB1.out).keep hb) hP.hb hP.nb, fun u hb => by simpa using printer_2 p2 c u ((x2.out.keep HB1.out).keep hb) hP.hc hP.nc⟩).mono ?_
  rintro e w2 ⟨rfl, hb2⟩
  have x5 := Lib.hid ((x4.out.keep HB1.out).keep hb2)
  have B2 := Lib.hid (bcall (bcall B.out HB1.out) hb2)
  obtain ⟨z, f, lt⟩ := x5.out.all
  have z0 := z 0
  have z1 := z 1
  have z2 := z 2
  have z3 := z 3
  simp only [List.getElem?_toArray, List.getElem?_cons_zero, List.getElem?_cons_succ] at z0 z1 z2 z3
  have HB : Hid (W.heap.size ≤ p4) := Lib.hid (by rw [HP2.out]; omega)
  clear z hb2
  go_wp2_with fail
  refine bodyPost_ret (v := .tuple #[.agg #[.float .f32 (fop .mul a 1065353216), .float .f32 (fop .mul b 1065353216), .float .f32 (fop .mul c 1065353216), .float .f32 (canon d)], .int .i64 0]) (by simp [results, Tryz.results98, go_sem, z0, z1, z2, z3]) rfl ⟨⟨_, _, _, _, rfl, px_eq hP (nb_mul hP.ha hP.na (.inl rfl)) (nb_mul hP.hb hP.nb (.inl rfl)) (nb_mul hP.hc hP.nc (.inl rfl))⟩, ?_⟩
  have hle := HB.out
  repeat (refine bput (by omega) ?_)
  exact B2.out
set_option maxRecDepth 100000 in
set_option maxHeartbeats 8000000 in
theorem change_wh (p1 a b c d l0 l1 l2 : Nat) (W : World) (hP : Px4 a b c d) (z_0 : zer0 l0 = true) (z_1 : zer0 l1 = true) (z_2 : zer0 l2 = true) (g1 : W.cell? ⟨p1, 1, none⟩ = some (.float .f32 l0)) (g2 : W.cell? ⟨p1, 2, none⟩ = some (.float .f32 l1)) (g3 : W.cell? ⟨p1, 3, none⟩ = some (.float .f32 l2)) (g4 : W.cell? ⟨p1, 4, none⟩ = some (.float .f32 1065353216)) (g5 : W.cell? ⟨p1, 5, none⟩ = some (.float .f32 1065353216)) (g6 : W.cell? ⟨p1, 6, none⟩ = some (.float .f32 1065353216)) (g7 : W.cell? ⟨p1, 7, none⟩ = some (.float .f32 1065353216)) (g8 : W.cell? ⟨p1, 8, none⟩ = some (.float .f32 1065353216)) (g9 : W.cell? ⟨p1, 9, none⟩ = some (.float .f32 1065353216))  : Calls Tryz.prog 87 #[.agg #[.float .f32 a, .float .f32 b, .float .f32 c, .float .f32 d], .pointer (some ⟨p1, 0, none⟩)] W fun e w' => PxOk a b c d e ∧ Below W.heap.size W w' := by
  go_enter Tryz.func87, Tryz.ntmps87
  go_upto_region 1 with fail
  refine name_world ?_
  intro wb hwb
  have x2 : Hid (Bx wb W.heap.size 25 #[.float .f32 a, .float .f32 b, .float .f32 c, .float .f32 d]) := Lib.hid (by rw [hwb]; exact Bx.alloc (Bx.new _ _ _) _)
  have x3 : Hid (Bx wb (W.heap.size + 1) 25 #[.float .f32 0, .float .f32 0, .float .f32 0, .float .f32 0]) := Lib.hid (by rw [hwb]; exact Bx.at _ (by simp))
  have B : Hid (Below W.heap.size W wb) := Lib.hid (by rw [hwb]; exact bnew (bnew (Below.refl _ W)))
  have k1 := cell_belowF B.out g1
  have k2 := cell_belowF B.out g2
  have k3 := cell_belowF B.out g3
  have k4 := cell_belowF B.out g4
  have k5 := cell_belowF B.out g5
  have k6 := cell_belowF B.out g6
  have k7 := cell_belowF B.out g7
  have k8 := cell_belowF B.out g8
  have k9 := cell_belowF B.out g9
  obtain ⟨p2, hp2⟩ : ∃ p, W.heap.size = p := ⟨_, rfl⟩
  have HP2 := Lib.hid hp2
  rw [hp2] at x2 x3 ⊢
  clear hwb hp2
  obtain ⟨p3, hp3⟩ : ∃ p, p2 + 1 = p := ⟨_, rfl⟩
  have h3 : p2 < p3 := by omega
  rw [hp3] at x3 ⊢
  clear hp3
  have y0 := x2.out.all.1 0
  have y1 := x2.out.all.1 1
  have y2 := x2.out.all.1 2
  have y3 := x2.out.all.1 3
  simp only [List.getElem?_toArray, List.getElem?_cons_zero, List.getElem?_cons_succ] at y0 y1 y2 y3
  go_wp2_with fail
  refine (grade_WheelsN a b c d l0 l1 l2 z_0 z_1 z_2 _ hP).mono ?_
  rintro e w2 ⟨⟨q0, q1, q2, q3, rfl, hq⟩, hb2⟩
  have x5 := Lib.hid (x3.out.keep hb2)
  have B2 := Lib.hid (bcall B.out hb2)
  have HQ := Lib.hid hq
  obtain ⟨z, f, lt⟩ := x5.out.all
  have z0 := z 0
  have z1 := z 1
  have z2 := z 2
  have z3 := z 3
  simp only [List.getElem?_toArray, List.getElem?_cons_zero, List.getElem?_cons_succ] at z0 z1 z2 z3
  have HB : Hid (W.heap.size ≤ p3) := Lib.hid (by rw [HP2.out]; omega)
  clear z hb2 hq
  go_wp2_with fail
  refine bodyPost_ret (v := .agg #[.float .f32 q0, .float .f32 q1, .float .f32 q2, .float .f32 q3]) (by simp [results, Tryz.results87, go_sem, z0, z1, z2, z3]) rfl ⟨⟨_, _, _, _, rfl, HQ.out⟩, ?_⟩
  have hle := HB.out
  repeat (refine bput (by omega) ?_)
  exact B2.out
set_option maxRecDepth 100000 in
set_option maxHeartbeats 8000000 in
theorem change_mx (p1 a b c d a1 a2 a3 b0 b2 b3 c0 c1 c3 : Nat) (W : World) (hP : Px4 a b c d) (za1 : zer0 a1 = true) (za2 : zer0 a2 = true) (za3 : zer0 a3 = true) (zb0 : zer0 b0 = true) (zb2 : zer0 b2 = true) (zb3 : zer0 b3 = true) (zc0 : zer0 c0 = true) (zc1 : zer0 c1 = true) (zc3 : zer0 c3 = true) (g32 : W.cell? ⟨p1, 32, none⟩ = some (.float .f32 1065353216)) (g33 : W.cell? ⟨p1, 33, none⟩ = some (.float .f32 a1)) (g34 : W.cell? ⟨p1, 34, none⟩ = some (.float .f32 a2)) (g35 : W.cell? ⟨p1, 35, none⟩ = some (.float .f32 a3)) (g36 : W.cell? ⟨p1, 36, none⟩ = some (.float .f32 b0)) (g37 : W.cell? ⟨p1, 37, none⟩ = some (.float .f32 1065353216)) (g38 : W.cell? ⟨p1, 38, none⟩ = some (.float .f32 b2)) (g39 : W.cell? ⟨p1, 39, none⟩ = some (.float .f32 b3)) (g40 : W.cell? ⟨p1, 40, none⟩ = some (.float .f32 c0)) (g41 : W.cell? ⟨p1, 41, none⟩ = some (.float .f32 c1)) (g42 : W.cell? ⟨p1, 42, none⟩ = some (.float .f32 1065353216)) (g43 : W.cell? ⟨p1, 43, none⟩ = some (.float .f32 c3))  : Calls Tryz.prog 91 #[.agg #[.float .f32 a, .float .f32 b, .float .f32 c, .float .f32 d], .pointer (some ⟨p1, 0, none⟩)] W fun e w' => PxOk a b c d e ∧ Below W.heap.size W w' := by
  go_enter Tryz.func91, Tryz.ntmps91
  go_upto_region 1 with fail
  refine name_world ?_
  intro wb hwb
  have x2 : Hid (Bx wb W.heap.size 25 #[.float .f32 a, .float .f32 b, .float .f32 c, .float .f32 d]) := Lib.hid (by rw [hwb]; exact Bx.alloc (Bx.new _ _ _) _)
  have x3 : Hid (Bx wb (W.heap.size + 1) 25 #[.float .f32 0, .float .f32 0, .float .f32 0, .float .f32 0]) := Lib.hid (by rw [hwb]; exact Bx.at _ (by simp))
  have B : Hid (Below W.heap.size W wb) := Lib.hid (by rw [hwb]; exact bnew (bnew (Below.refl _ W)))
  have k32 := cell_belowF B.out g32
  have k33 := cell_belowF B.out g33
  have k34 := cell_belowF B.out g34
  have k35 := cell_belowF B.out g35
  have k36 := cell_belowF B.out g36
  have k37 := cell_belowF B.out g37
  have k38 := cell_belowF B.out g38
  have k39 := cell_belowF B.out g39
  have k40 := cell_belowF B.out g40
  have k41 := cell_belowF B.out g41
  have k42 := cell_belowF B.out g42
  have k43 := cell_belowF B.out g43
  obtain ⟨p2, hp2⟩ : ∃ p, W.heap.size = p := ⟨_, rfl⟩
  have HP2 := Lib.hid hp2
  rw [hp2] at x2 x3 ⊢
  clear hwb hp2
  obtain ⟨p3, hp3⟩ : ∃ p, p2 + 1 = p := ⟨_, rfl⟩
  have h3 : p2 < p3 := by omega
  rw [hp3] at x3 ⊢
  clear hp3
  have y0 := x2.out.all.1 0
  have y1 := x2.out.all.1 1
  have y2 := x2.out.all.1 2
  have y3 := x2.out.all.1 3
  simp only [List.getElem?_toArray, List.getElem?_cons_zero, List.getElem?_cons_succ] at y0 y1 y2 y3
  go_wp2_with fail
  refine (grade_MixerN a b c d a1 a2 a3 b0 b2 b3 c0 c1 c3 za1 za2 za3 zb0 zb2 zb3 zc0 zc1 zc3 _ hP).mono ?_
  rintro e w2 ⟨⟨q0, q1, q2, q3, rfl, hq⟩, hb2⟩
  have x5 := Lib.hid (x3.out.keep hb2)
  have B2 := Lib.hid (bcall B.out hb2)
  have HQ := Lib.hid hq
  obtain ⟨z, f, lt⟩ := x5.out.all
  have z0 := z 0
  have z1 := z 1
  have z2 := z 2
  have z3 := z 3
  simp only [List.getElem?_toArray, List.getElem?_cons_zero, List.getElem?_cons_succ] at z0 z1 z2 z3
  have HB : Hid (W.heap.size ≤ p3) := Lib.hid (by rw [HP2.out]; omega)
  clear z hb2 hq
  go_wp2_with fail
  refine bodyPost_ret (v := .agg #[.float .f32 q0, .float .f32 q1, .float .f32 q2, .float .f32 q3]) (by simp [results, Tryz.results91, go_sem, z0, z1, z2, z3]) rfl ⟨⟨_, _, _, _, rfl, HQ.out⟩, ?_⟩
  have hle := HB.out
  repeat (refine bput (by omega) ?_)
  exact B2.out
set_option maxRecDepth 100000 in
set_option maxHeartbeats 8000000 in
theorem change_co (p1 a b c d piv : Nat) (W : World) (hP : Px4 a b c d) (hp : zer0 piv = true) (g44 : W.cell? ⟨p1, 44, none⟩ = some (.float .f32 piv)) (g45 : W.cell? ⟨p1, 45, none⟩ = some (.float .f32 1065353216))  : Calls Tryz.prog 93 #[.agg #[.float .f32 a, .float .f32 b, .float .f32 c, .float .f32 d], .pointer (some ⟨p1, 0, none⟩)] W fun e w' => PxOk a b c d e ∧ Below W.heap.size W w' := by
  go_enter Tryz.func93, Tryz.ntmps93
  go_upto_region 1 with fail
  refine name_world ?_
  intro wb hwb
  have x2 : Hid (Bx wb W.heap.size 25 #[.float .f32 a, .float .f32 b, .float .f32 c, .float .f32 d]) := Lib.hid (by rw [hwb]; exact Bx.alloc (Bx.new _ _ _) _)
  have x3 : Hid (Bx wb (W.heap.size + 1) 25 #[.float .f32 0, .float .f32 0, .float .f32 0, .float .f32 0]) := Lib.hid (by rw [hwb]; exact Bx.at _ (by simp))
  have B : Hid (Below W.heap.size W wb) := Lib.hid (by rw [hwb]; exact bnew (bnew (Below.refl _ W)))
  have k44 := cell_belowF B.out g44
  have k45 := cell_belowF B.out g45
  obtain ⟨p2, hp2⟩ : ∃ p, W.heap.size = p := ⟨_, rfl⟩
  have HP2 := Lib.hid hp2
  rw [hp2] at x2 x3 ⊢
  clear hwb hp2
  obtain ⟨p3, hp3⟩ : ∃ p, p2 + 1 = p := ⟨_, rfl⟩
  have h3 : p2 < p3 := by omega
  rw [hp3] at x3 ⊢
  clear hp3
  have y0 := x2.out.all.1 0
  have y1 := x2.out.all.1 1
  have y2 := x2.out.all.1 2
  have y3 := x2.out.all.1 3
  simp only [List.getElem?_toArray, List.getElem?_cons_zero, List.getElem?_cons_succ] at y0 y1 y2 y3
  go_wp2_with fail
  refine (grade_three 95 #[.pointer (some ⟨p1, 0, none⟩)] a b c d (conV a piv 1065353216) (conV b piv 1065353216) (conV c piv 1065353216) _ ⟨fun args u => enters Tryz.func95 (by kernel_rfl) (by kernel_rfl) _ _, fun u hb => by simpa using contrast_c p1 0 a piv u (cell_belowF hb k44) (cell_belowF hb k45) hP.ha hP.na hp, fun u hb => by simpa using contrast_c p1 1 b piv u (cell_belowF hb k44) (cell_belowF hb k45) hP.hb hP.nb hp, fun u hb => by simpa using contrast_c p1 2 c piv u (cell_belowF hb k44) (cell_belowF hb k45) hP.hc hP.nc hp⟩).mono ?_
  rintro e w2 ⟨rfl, hb2⟩
  have x5 := Lib.hid (x3.out.keep hb2)
  have B2 := Lib.hid (bcall B.out hb2)
  have HQ : Hid (eqL [(conV a piv 1065353216), (conV b piv 1065353216), (conV c piv 1065353216), canon d] [a, b, c, d] = true) := Lib.hid (px_eq hP (conV_nb hP.ha hP.na rfl hp) (conV_nb hP.hb hP.nb rfl hp) (conV_nb hP.hc hP.nc rfl hp))
  obtain ⟨z, f, lt⟩ := x5.out.all
  have z0 := z 0
  have z1 := z 1
  have z2 := z 2
  have z3 := z 3
  simp only [List.getElem?_toArray, List.getElem?_cons_zero, List.getElem?_cons_succ] at z0 z1 z2 z3
  have HB : Hid (W.heap.size ≤ p3) := Lib.hid (by rw [HP2.out]; omega)
  clear z hb2
  go_wp2_with fail
  refine bodyPost_ret (v := .agg #[.float .f32 (conV a piv 1065353216), .float .f32 (conV b piv 1065353216), .float .f32 (conV c piv 1065353216), .float .f32 (canon d)]) (by simp [results, Tryz.results93, go_sem, z0, z1, z2, z3]) rfl ⟨⟨_, _, _, _, rfl, HQ.out⟩, ?_⟩
  have hle := HB.out
  repeat (refine bput (by omega) ?_)
  exact B2.out
set_option maxRecDepth 100000 in
set_option maxHeartbeats 8000000 in
theorem change_pr (p1 a b c d  : Nat) (W : World) (hP : Px4 a b c d) (g46 : W.cell? ⟨p1, 46, none⟩ = some (.int .i64 25)) (g47 : W.cell? ⟨p1, 47, none⟩ = some (.int .i64 25)) (g48 : W.cell? ⟨p1, 48, none⟩ = some (.int .i64 25))  : Calls Tryz.prog 97 #[.agg #[.float .f32 a, .float .f32 b, .float .f32 c, .float .f32 d], .pointer (some ⟨p1, 0, none⟩)] W fun e w' => PxOk a b c d e ∧ Below W.heap.size W w' := by
  go_enter Tryz.func97, Tryz.ntmps97
  go_upto_region 1 with fail
  refine name_world ?_
  intro wb hwb
  have x2 : Hid (Bx wb W.heap.size 25 #[.float .f32 a, .float .f32 b, .float .f32 c, .float .f32 d]) := Lib.hid (by rw [hwb]; exact Bx.alloc (Bx.new _ _ _) _)
  have x3 : Hid (Bx wb (W.heap.size + 1) 25 #[.float .f32 0, .float .f32 0, .float .f32 0, .float .f32 0]) := Lib.hid (by rw [hwb]; exact Bx.at _ (by simp))
  have B : Hid (Below W.heap.size W wb) := Lib.hid (by rw [hwb]; exact bnew (bnew (Below.refl _ W)))
  have k46 := cell_belowF B.out g46
  have k47 := cell_belowF B.out g47
  have k48 := cell_belowF B.out g48
  obtain ⟨p2, hp2⟩ : ∃ p, W.heap.size = p := ⟨_, rfl⟩
  have HP2 := Lib.hid hp2
  rw [hp2] at x2 x3 ⊢
  clear hwb hp2
  obtain ⟨p3, hp3⟩ : ∃ p, p2 + 1 = p := ⟨_, rfl⟩
  have h3 : p2 < p3 := by omega
  rw [hp3] at x3 ⊢
  clear hp3
  have y0 := x2.out.all.1 0
  have y1 := x2.out.all.1 1
  have y2 := x2.out.all.1 2
  have y3 := x2.out.all.1 3
  simp only [List.getElem?_toArray, List.getElem?_cons_zero, List.getElem?_cons_succ] at y0 y1 y2 y3
  go_wp2_with fail
  refine (grade_PrinterN a b c d _ hP).mono ?_
  rintro e w2 ⟨⟨q0, q1, q2, q3, rfl, hq⟩, hb2⟩
  have x5 := Lib.hid (x3.out.keep hb2)
  have B2 := Lib.hid (bcall B.out hb2)
  have HQ := Lib.hid hq
  clear hb2 hq
  go_upto_region 2 with fail
  refine name_world ?_
  intro w3 hw3
  have x6 : Hid (Bx w3 p3 25 #[.float .f32 0, .float .f32 0, .float .f32 0, .float .f32 0]) := Lib.hid (by rw [hw3]; exact x5.out.alloc _)
  have x7 : Hid (Bx w3 w2.heap.size 25 #[.float .f32 q0, .float .f32 q1, .float .f32 q2, .float .f32 q3]) := Lib.hid (by rw [hw3]; exact Bx.new _ _ _)
  have B3 : Hid (Below W.heap.size W w3) := Lib.hid (by rw [hw3]; exact bnew B2.out)
  have hne : p3 < w2.heap.size := x5.out.lt
  obtain ⟨p4, hp4⟩ : ∃ p, w2.heap.size = p := ⟨_, rfl⟩
  rw [hp4] at x7 hne ⊢
  clear hw3 hp4
  obtain ⟨z, f, lt⟩ := x6.out.all
  have z0 := z 0
  have z1 := z 1
  have z2 := z 2
  have z3 := z 3
  have s0 := x7.out.all.1 0
  have s1 := x7.out.all.1 1
  have s2 := x7.out.all.1 2
  have s3 := x7.out.all.1 3
  simp only [List.getElem?_toArray, List.getElem?_cons_zero, List.getElem?_cons_succ] at s0 s1 s2 s3
  simp only [List.getElem?_toArray, List.getElem?_cons_zero, List.getElem?_cons_succ] at z0 z1 z2 z3
  have HB : Hid (W.heap.size ≤ p3) := Lib.hid (by rw [HP2.out]; omega)
  clear z
  go_wp2_with fail
  refine bodyPost_ret (v := .agg #[.float .f32 q0, .float .f32 q1, .float .f32 q2, .float .f32 q3]) (by simp [results, Tryz.results97, go_sem, z0, z1, z2, z3]) rfl ⟨⟨_, _, _, _, rfl, HQ.out⟩, ?_⟩
  have hle := HB.out
  repeat (refine bput (by omega) ?_)
  exact B3.out
end

section
open Go.RowKit Go.Lib

set_option maxRecDepth 100000 in
theorem change_id (v : Nat) (u : World) : Calls Tryz.prog 99 #[.float .f32 v] u fun e u' => e = .returned (.float .f32 v) ∧ u = u' := by
  go_enter Tryz.func99, Tryz.ntmps99
  go_wp2
  go_ret
  exact ⟨rfl, rfl⟩
set_option maxRecDepth 100000 in
set_option maxHeartbeats 4000000 in
theorem bends_0 (p2 v : Nat) (u : World) (hx : Bx u p2 138 #[.func (.func 99) #[] #[], .func (.func 99) #[] #[], .func (.func 99) #[] #[], .func (.func 99) #[] #[]]) (hn : isNum v = true) :
    Calls Tryz.prog 102 #[.int .i64 0, .float .f32 v, .pointer (some ⟨p2, 0, none⟩)] u fun e u' => (∃ r, e = .returned (.float .f32 r) ∧ canon r = v) ∧ Below u.heap.size u u' := by
  have HV : Hid (canon v = v) := Lib.hid (nb_num hn (.inl rfl))
  have hcf : ∀ (args : Array Value) (u : World), (callFunc 99 args).run Tryz.prog u = .ok (.enter 99 args) u := fun args u => enters Tryz.func99 (by kernel_rfl) (by kernel_rfl) _ _
  have z0 := hx.all.1 0
  have z3 := hx.all.1 3
  simp only [List.getElem?_toArray, List.getElem?_cons_zero, List.getElem?_cons_succ] at z0 z3
  clear hn hx
  go_enter Tryz.func102, Tryz.ntmps102
  go_wp2_with fail
  go_quiet (exact quiet_same (change_id _ _))
  go_wp2_with fail
  go_ret
  refine ⟨⟨v, rfl, HV.out⟩, ?_⟩
  repeat (refine below_drewN ?_ _)
  exact Below.refl _ _
set_option maxRecDepth 100000 in
set_option maxHeartbeats 4000000 in
theorem bends_1 (p2 v : Nat) (u : World) (hx : Bx u p2 138 #[.func (.func 99) #[] #[], .func (.func 99) #[] #[], .func (.func 99) #[] #[], .func (.func 99) #[] #[]]) (hn : isNum v = true) :
    Calls Tryz.prog 102 #[.int .i64 1, .float .f32 v, .pointer (some ⟨p2, 0, none⟩)] u fun e u' => (∃ r, e = .returned (.float .f32 r) ∧ canon r = v) ∧ Below u.heap.size u u' := by
  have HV : Hid (canon v = v) := Lib.hid (nb_num hn (.inl rfl))
  have hcf : ∀ (args : Array Value) (u : World), (callFunc 99 args).run Tryz.prog u = .ok (.enter 99 args) u := fun args u => enters Tryz.func99 (by kernel_rfl) (by kernel_rfl) _ _
  have z1 := hx.all.1 1
  have z3 := hx.all.1 3
  simp only [List.getElem?_toArray, List.getElem?_cons_zero, List.getElem?_cons_succ] at z1 z3
  clear hn hx
  go_enter Tryz.func102, Tryz.ntmps102
  go_wp2_with fail
  go_quiet (exact quiet_same (change_id _ _))
  go_wp2_with fail
  go_ret
  refine ⟨⟨v, rfl, HV.out⟩, ?_⟩
  repeat (refine below_drewN ?_ _)
  exact Below.refl _ _
set_option maxRecDepth 100000 in
set_option maxHeartbeats 4000000 in
theorem bends_2 (p2 v : Nat) (u : World) (hx : Bx u p2 138 #[.func (.func 99) #[] #[], .func (.func 99) #[] #[], .func (.func 99) #[] #[], .func (.func 99) #[] #[]]) (hn : isNum v = true) :
    Calls Tryz.prog 102 #[.int .i64 2, .float .f32 v, .pointer (some ⟨p2, 0, none⟩)] u fun e u' => (∃ r, e = .returned (.float .f32 r) ∧ canon r = v) ∧ Below u.heap.size u u' := by
  have HV : Hid (canon v = v) := Lib.hid (nb_num hn (.inl rfl))
  have hcf : ∀ (args : Array Value) (u : World), (callFunc 99 args).run Tryz.prog u = .ok (.enter 99 args) u := fun args u => enters Tryz.func99 (by kernel_rfl) (by kernel_rfl) _ _
  have z2 := hx.all.1 2
  have z3 := hx.all.1 3
  simp only [List.getElem?_toArray, List.getElem?_cons_zero, List.getElem?_cons_succ] at z2 z3
  clear hn hx
  go_enter Tryz.func102, Tryz.ntmps102
  go_wp2_with fail
  go_quiet (exact quiet_same (change_id _ _))
  go_wp2_with fail
  go_ret
  refine ⟨⟨v, rfl, HV.out⟩, ?_⟩
  repeat (refine below_drewN ?_ _)
  exact Below.refl _ _
set_option maxRecDepth 100000 in
set_option maxHeartbeats 8000000 in
theorem change_cv (p1 a b c d : Nat) (W : World) (hP : Px4 a b c d) (H0 : Bx W p1 138 #[.func (.func 99) #[] #[], .func (.func 99) #[] #[], .func (.func 99) #[] #[], .func (.func 99) #[] #[]]) : Calls Tryz.prog 101 #[.agg #[.float .f32 a, .float .f32 b, .float .f32 c, .float .f32 d], .pointer (some ⟨p1, 0, none⟩)] W fun e w' => PxOk a b c d e ∧ Below W.heap.size W w' := by
  go_enter Tryz.func101, Tryz.ntmps101
  go_upto_region 1 with fail
  refine name_world ?_
  intro wb hwb
  have x2 : Hid (Bx wb W.heap.size 25 #[.float .f32 a, .float .f32 b, .float .f32 c, .float .f32 d]) := Lib.hid (by rw [hwb]; exact Bx.alloc (Bx.new _ _ _) _)
  have x3 : Hid (Bx wb (W.heap.size + 1) 25 #[.float .f32 0, .float .f32 0, .float .f32 0, .float .f32 0]) := Lib.hid (by rw [hwb]; exact Bx.at _ (by simp))
  have B : Hid (Below W.heap.size W wb) := Lib.hid (by rw [hwb]; exact bnew (bnew (Below.refl _ W)))
  have H1 := Lib.hid H0
  clear H0
  obtain ⟨p2, hp2⟩ : ∃ p, W.heap.size = p := ⟨_, rfl⟩
  have HP2 := Lib.hid hp2
  rw [hp2] at x2 x3 ⊢
  clear hwb hp2
  obtain ⟨p3, hp3⟩ : ∃ p, p2 + 1 = p := ⟨_, rfl⟩
  have h3 : p2 < p3 := by omega
  rw [hp3] at x3 ⊢
  clear hp3
  have y0 := x2.out.all.1 0
  have y1 := x2.out.all.1 1
  have y2 := x2.out.all.1 2
  have y3 := x2.out.all.1 3
  simp only [List.getElem?_toArray, List.getElem?_cons_zero, List.getElem?_cons_succ] at y0 y1 y2 y3
  go_wp2_with fail
  refine (grade_three 102 #[.pointer (some ⟨p1, 0, none⟩)] a b c d a b c _ ⟨fun args u => enters Tryz.func102 (by kernel_rfl) (by kernel_rfl) _ _, fun u hb => by simpa using bends_0 p1 a u (H1.out.keep (B.out.trans (hb.mono B.out.size))) hP.na, fun u hb => by simpa using bends_1 p1 b u (H1.out.keep (B.out.trans (hb.mono B.out.size))) hP.nb, fun u hb => by simpa using bends_2 p1 c u (H1.out.keep (B.out.trans (hb.mono B.out.size))) hP.nc⟩).mono ?_
  rintro e w2 ⟨rfl, hb2⟩
  have x5 := Lib.hid (x3.out.keep hb2)
  have B2 := Lib.hid (bcall B.out hb2)
  have HQ : Hid (eqL [a, b, c, canon d] [a, b, c, d] = true) := Lib.hid (px_eq hP (.inl rfl) (.inl rfl) (.inl rfl))
  obtain ⟨z, f, lt⟩ := x5.out.all
  have z0 := z 0
  have z1 := z 1
  have z2 := z 2
  have z3 := z 3
  simp only [List.getElem?_toArray, List.getElem?_cons_zero, List.getElem?_cons_succ] at z0 z1 z2 z3
  have HB : Hid (W.heap.size ≤ p3) := Lib.hid (by rw [HP2.out]; omega)
  clear z hb2
  go_wp2_with fail
  refine bodyPost_ret (v := .agg #[.float .f32 a, .float .f32 b, .float .f32 c, .float .f32 (canon d)]) (by simp [results, Tryz.results101, go_sem, z0, z1, z2, z3]) rfl ⟨⟨_, _, _, _, rfl, HQ.out⟩, ?_⟩
  have hle := HB.out
  repeat (refine bput (by omega) ?_)
  exact B2.out
/-- A function value that hands a pixel out with the same numbers. -/
def FnPx (w : World) (v : Value) (a b c d : Nat) : Prop := ∃ (F : FuncId) (cap : Array Value), v = .func (.func F) #[] cap ∧ (∀ (args : Array Value) (u : World), (callFunc F args).run Tryz.prog u = .ok (.enter F args) u) ∧
  ∀ u, Below w.heap.size w u → Calls Tryz.prog F (#[.agg #[.float .f32 a, .float .f32 b, .float .f32 c, .float .f32 d]] ++ cap) u fun e u' => PxOk a b c d e ∧ Below u.heap.size u u'
theorem FnPx.keep {w w' : World} {v : Value} {a b c d : Nat} (h : FnPx w v a b c d) (hb : Below w.heap.size w w') : FnPx w' v a b c d := by
  obtain ⟨F, cap, h1, h2, h3⟩ := h
  exact ⟨F, cap, h1, h2, fun u hu => h3 u (hb.trans (hu.mono hb.size))⟩
def outF (k : Nat) : Array Value := #[if 0 < k then .func (.func 99) #[] #[] else Value.nilFunc, if 1 < k then .func (.func 99) #[] #[] else Value.nilFunc, if 2 < k then .func (.func 99) #[] #[] else Value.nilFunc, if 3 < k then .func (.func 99) #[] #[] else Value.nilFunc]
theorem outF_get {j : Nat} (h : j < 4) : (outF j)[j]? = some Value.nilFunc := by
  rcases (by omega : j = 0 ∨ j = 1 ∨ j = 2 ∨ j = 3) with rfl | rfl | rfl | rfl <;> rfl
theorem outF_set {j : Nat} (h : j < 4) : (outF j).setIfInBounds j (.func (.func 99) #[] #[]) = outF (j + 1) := by
  rcases (by omega : j = 0 ∨ j = 1 ∨ j = 2 ∨ j = 3) with rfl | rfl | rfl | rfl <;> rfl
set_option maxRecDepth 100000 in
set_option maxHeartbeats 16000000 in
theorem grade_changeN (C : Array Value) (g : Gd) (W : World) (hG : GdAt W C g) (he : gradeErr g = 0) (hn : neutB g = true) (hw : GdW g) (a b c d : Nat) (hP : Px4 a b c d) :
    Calls Tryz.prog 39 #[.agg C] W fun e w' => ∃ v, e = .returned v ∧ FnPx w' v a b c d ∧ Below W.heap.size W w' := by
  have HG := Lib.hid hG
  have HE := Lib.hid (And.intro he (And.intro hn hw))
  obtain ⟨v0, v1, v2, v3, v4, v5, v6, v7, v8, l0, l1, l2, l3, l4, l5, l6, l7, l8, l9, m0, m1, m2, m3, m4, m5, m6, m7, m8, m9, m10, m11, n0, n1, n2, hfl⟩ := hG.flat
  have HFl := Lib.hid hfl
  obtain ⟨kk, hkk⟩ : ∃ kk, g.kind = kk := ⟨_, rfl⟩
  have HKK := Lib.hid hkk
  have hk1 := (right_of he).k1
  have hk6 := (right_of he).k6
  rw [hkk] at hk1 hk6
  have HN : Hid ((kk = 1 → eqL [v0, v1, v2, v3, v4, v5, v6, v7, v8] neutW = true) ∧ (kk ≠ 2) ∧ (kk = 3 → ∀ c ∈ g.cvs, c.xs.length = 0 ∧ c.ys.length = 0) ∧ (kk = 4 → eqL [m0, m1, m2, m3, m4, m5, m6, m7, m8, m9, m10, m11] neutM = true) ∧ (kk = 5 → eqF g.amt 1065353216 = true ∧ eqF g.piv 0 = true) ∧ (kk = 6 → n0 = 25 ∧ n1 = 25 ∧ n2 = 25)) := Lib.hid (by
    unfold neutB at hn
    rw [hkk] at hn
    refine ⟨fun h => ?_, fun h => ?_, fun h => ?_, fun h => ?_, fun h => ?_, fun h => ?_⟩
    · rw [h, if_pos rfl, hfl.whe] at hn; exact hn
    · rw [h] at hn; cases hn
    · rw [h, if_neg (by decide), if_pos rfl] at hn
      intro c hc
      have h0 := of_decide_eq_true (List.all_eq_true.1 hn c hc)
      exact ⟨h0, by rw [← ((right_of he).cvs c hc).1]; exact h0⟩
    · rw [h, if_neg (by decide), if_neg (by decide), if_pos rfl, hfl.mix] at hn; exact hn
    · rw [h, if_neg (by decide), if_neg (by decide), if_neg (by decide), if_pos rfl] at hn
      simpa using hn
    · rw [h, if_neg (by decide), if_neg (by decide), if_neg (by decide), if_neg (by decide), if_pos rfl, hfl.pts] at hn
      simpa using hn)
  clear hfl hkk hG he hn hw
  go_enter Tryz.func39, Tryz.ntmps39
  go_upto_region 1 with fail
  refine name_world ?_
  intro W1 hW1
  have X1 : Hid (Bx W1 W.heap.size 46 C) := Lib.hid (by rw [hW1]; exact Bx.new W _ C)
  have HW : Hid (Below W.heap.size W W1) := Lib.hid (by rw [hW1]; exact bnew (ob := .cells C 46) (Below.refl _ _))
  obtain ⟨p1, hp1⟩ : ∃ p, W.heap.size = p := ⟨_, rfl⟩
  rw [hp1] at X1 ⊢
  have HP1 := Lib.hid hp1
  clear hW1 hp1
  have q0 : W1.cell? ⟨p1, 0, none⟩ = some (.int .i64 kk) := by rw [X1.out.all.1, HG.out.kind, HKK.out]
  rcases (by omega : kk = 1 ∨ kk = 2 ∨ kk = 3 ∨ kk = 4 ∨ kk = 5 ∨ kk = 6) with rfl | rfl | rfl | rfl | rfl | rfl
  · have E1 := HN.out.1 rfl
    have e3 : v3 = 1065353216 := eqF_one (HE.out.2.2.whe _ (by rw [HFl.out.whe]; simp)) (eqL_get E1 (i := 3) (by decide))
    have e4 : v4 = 1065353216 := eqF_one (HE.out.2.2.whe _ (by rw [HFl.out.whe]; simp)) (eqL_get E1 (i := 4) (by decide))
    have e5 : v5 = 1065353216 := eqF_one (HE.out.2.2.whe _ (by rw [HFl.out.whe]; simp)) (eqL_get E1 (i := 5) (by decide))
    have e6 : v6 = 1065353216 := eqF_one (HE.out.2.2.whe _ (by rw [HFl.out.whe]; simp)) (eqL_get E1 (i := 6) (by decide))
    have e7 : v7 = 1065353216 := eqF_one (HE.out.2.2.whe _ (by rw [HFl.out.whe]; simp)) (eqL_get E1 (i := 7) (by decide))
    have e8 : v8 = 1065353216 := eqF_one (HE.out.2.2.whe _ (by rw [HFl.out.whe]; simp)) (eqL_get E1 (i := 8) (by decide))
    have z0 : zer0 v0 = true := eqL_get E1 (i := 0) (by decide)
    have z1 : zer0 v1 = true := eqL_get E1 (i := 1) (by decide)
    have z2 : zer0 v2 = true := eqL_get E1 (i := 2) (by decide)
    subst e3 e4 e5 e6 e7 e8
    have HZ := Lib.hid (And.intro z0 (And.intro z1 z2))
    clear E1 z0 z1 z2
    go_wp2_with fail
    go_ret
    refine ⟨_, rfl, ⟨87, #[.pointer (some ⟨p1, 0, none⟩)], rfl, fun args u => enters Tryz.func87 (by kernel_rfl) (by kernel_rfl) _ _, fun u hb => ?_⟩, HW.out⟩
    have X := X1.out.keep hb
    simpa using change_wh p1 a b c d v0 v1 v2 u hP HZ.out.1 HZ.out.2.1 HZ.out.2.2 (by rw [X.all.1, HG.out.whe.2 0 (by omega), HFl.out.whe]; rfl) (by rw [X.all.1, HG.out.whe.2 1 (by omega), HFl.out.whe]; rfl) (by rw [X.all.1, HG.out.whe.2 2 (by omega), HFl.out.whe]; rfl) (by rw [X.all.1, HG.out.whe.2 3 (by omega), HFl.out.whe]; rfl) (by rw [X.all.1, HG.out.whe.2 4 (by omega), HFl.out.whe]; rfl) (by rw [X.all.1, HG.out.whe.2 5 (by omega), HFl.out.whe]; rfl) (by rw [X.all.1, HG.out.whe.2 6 (by omega), HFl.out.whe]; rfl) (by rw [X.all.1, HG.out.whe.2 7 (by omega), HFl.out.whe]; rfl) (by rw [X.all.1, HG.out.whe.2 8 (by omega), HFl.out.whe]; rfl)
  · exact absurd rfl HN.out.2.1
  · obtain ⟨hD1, hD2⟩ := part_cells X1.out 20 12 (by rw [HG.out.size]; omega)
    have HD := Lib.hid (And.intro hD1 hD2)
    clear hD1 hD2
    go_upto_region 13 with fail
    refine name_world ?_
    intro W2 hW2
    have X3 : Hid (Bx W2 W1.heap.size 138 (outF 0)) := Lib.hid (by rw [hW2]; exact Bx.new W1 _ _)
    have B12 : Hid (Below W1.heap.size W1 W2) := Lib.hid (by rw [hW2]; exact bnew (Below.refl _ _))
    obtain ⟨p3, hp3⟩ : ∃ p, W1.heap.size = p := ⟨_, rfl⟩
    rw [hp3] at X3 ⊢
    have HP3 := Lib.hid hp3
    clear hW2 hp3 q0
    go_wp2_with (refine wpList_load_cells rfl 40 (.tmp 23) rfl p1 20 rfl (C.extract 20 (20 + 12)) (fun j v hj => cell_belowF B12.out (HD.out.2 j v hj)) _ Tryz.underlying40 rfl (by rw [HD.out.1]; exact size_c4) ?_)
    obtain ⟨D, hD⟩ : ∃ D, C.extract 20 (20 + 12) = D := ⟨_, rfl⟩
    rw [hD]
    have HDe := Lib.hid hD
    clear hD
    go_loopw [25] (fun i wr => ∃ j : Nat, j ≤ 4 ∧ i = .int .i64 (j : Int) ∧ Hid (Bx wr p3 138 (outF j) ∧ Below W.heap.size W wr)) (fun i _ => 4 - (RowKit.intOf i).toNat)
    case atStart => exact ⟨0, by omega, rfl, Lib.hid ⟨X3.out, HW.out.trans (B12.out.mono HW.out.size)⟩⟩
    case round =>
      obtain ⟨j, hj, rfl, HI⟩ := hrel
      by_cases hlj : j < 4
      · obtain ⟨c3, hc3⟩ : ∃ c3, g.cvs[j]? = some c3 := ⟨_, List.getElem?_eq_getElem (by have := HG.out.cvs.1; omega)⟩
        obtain ⟨vx, vy, e3, slx, sly⟩ := HG.out.cv hc3
        rw [HDe.out] at e3
        obtain ⟨h0x, h0y⟩ := HN.out.2.2.1 (by trivial) c3 (List.mem_of_getElem? hc3)
        obtain ⟨ax, cx, rfl⟩ := slx.sl
        obtain ⟨ay, cy, rfl⟩ := sly.sl
        obtain ⟨ck, hck⟩ : ∃ n, c3.kind = n := ⟨_, rfl⟩
        rw [h0x, h0y, hck] at e3
        obtain ⟨D3, hD3⟩ : ∃ D3, (#[Value.int .i64 ck, .slice ax 0 cx, .slice ay 0 cy] : Array Value) = D3 := ⟨_, rfl⟩
        have hone : D3.all (·.oneCell') = true := by rw [← hD3]; simp [Value.oneCell']
        have hcs : D3.size = 3 := by rw [← hD3]; rfl
        have hst := fun w => curve_store w hcs hone
        rw [hD3] at e3
        have HE3 := Lib.hid (And.intro e3 hD3)
        have hd2 : decide ((j : Int) < 4) = true := decide_eq_true (by omega)
        clear hc3 slx sly hck hone hD3 e3 h0x h0y
        go_upto_region 15 with fail
        go_upto_region 16 with (refine wpList_index_cv rfl (.tmp 24) (.tmp 25) rfl rfl rfl hlj HE3.out.1 ?_)
        clear hst hcs
        refine name_world ?_
        intro W3 hW3
        have X4 : Hid (Bx W3 wr.heap.size 39 D3) := Lib.hid (by rw [hW3]; exact Bx.new wr _ D3)
        have HB3 : Hid (Below W.heap.size W W3) := Lib.hid (by rw [hW3]; exact bnew (ob := .cells D3 39) HI.out.2)
        have X3b : Hid (Bx W3 p3 138 (outF j)) := Lib.hid (by rw [hW3]; exact HI.out.1.alloc _)
        have hne : p3 < wr.heap.size := HI.out.1.lt
        obtain ⟨p4, hp4⟩ : ∃ p, wr.heap.size = p := ⟨_, rfl⟩
        rw [hp4] at X4 hne ⊢
        clear hW3 hp4
        have hD3 := HE3.out.2
        subst hD3
        have X4b : Hid (Bx (W3.setCell ⟨p3, j, none⟩ (.func (.func 99) #[] #[])) p4 39 #[Value.int .i64 ck, .slice ax 0 cx, .slice ay 0 cy]) := Lib.hid (Only.bx ((Only.refl p3 _).set _ _) (by omega) X4.out)
        have X3c : Hid (Bx (W3.setCell ⟨p3, j, none⟩ (.func (.func 99) #[] #[])) p3 138 (outF (j + 1))) := Lib.hid (by rw [← outF_set hlj]; exact X3b.out.set j _)
        have HB4 : Hid (Below W.heap.size W (W3.setCell ⟨p3, j, none⟩ (.func (.func 99) #[] #[]))) := Lib.hid (bput (by have := HW.out.size; rw [← HP3.out]; omega) HB3.out)
        obtain ⟨q3, f3, l3⟩ := X3b.out.all
        have y3 := q3 j
        rw [outF_get hlj] at y3
        have g3 := f3 j
        clear q3 f3
        go_upto_region 17 with fail
        refine name_world ?_
        intro W4 hW4
        rw [← hW4] at X4b X3c HB4
        clear hW4 y3 g3
        have r0 := X4b.out.all.1 0
        have r1 := X4b.out.all.1 1
        have r2 := X4b.out.all.1 2
        simp only [List.getElem?_toArray, List.getElem?_cons_zero, List.getElem?_cons_succ] at r0 r1 r2
        go_wp2_with fail
        refine (grade_hasPoints _ _ _ _ _ _ _ _).mono ?_
        rintro e w5 ⟨rfl, hb5⟩
        rw [show (decide (0 < 0) || decide (0 < 0)) = false from rfl]
        have HI5 : Hid (Bx w5 p3 138 (outF (j + 1)) ∧ Below W.heap.size W w5) := Lib.hid ⟨X3c.out.keep hb5, bcall HB4.out hb5⟩
        clear hb5 r0 r1 r2
        go_wp2_with fail
        go_roundw
        case rel => exact ⟨j + 1, by omega, by go_num, HI5⟩
        case measure => simp [RowKit.intOf]; omega
      · obtain rfl : j = 4 := by omega
        go_wp2_with fail
        go_ret
        refine ⟨_, rfl, ⟨101, #[.pointer (some ⟨p3, 0, none⟩)], rfl, fun args u => enters Tryz.func101 (by kernel_rfl) (by kernel_rfl) _ _, fun u hb => ?_⟩, HI.out.2⟩
        have X : Bx u p3 138 #[.func (.func 99) #[] #[], .func (.func 99) #[] #[], .func (.func 99) #[] #[], .func (.func 99) #[] #[]] := HI.out.1.keep hb
        simpa using change_cv p3 a b c d u hP X
  · have E1 := HN.out.2.2.2.1 rfl
    have e0 : m0 = 1065353216 := eqF_one (HE.out.2.2.mix _ (by rw [HFl.out.mix]; simp)) (eqL_get E1 (i := 0) (by decide))
    have e5 : m5 = 1065353216 := eqF_one (HE.out.2.2.mix _ (by rw [HFl.out.mix]; simp)) (eqL_get E1 (i := 5) (by decide))
    have e10 : m10 = 1065353216 := eqF_one (HE.out.2.2.mix _ (by rw [HFl.out.mix]; simp)) (eqL_get E1 (i := 10) (by decide))
    have z1 : zer0 m1 = true := eqL_get E1 (i := 1) (by decide)
    have z2 : zer0 m2 = true := eqL_get E1 (i := 2) (by decide)
    have z3 : zer0 m3 = true := eqL_get E1 (i := 3) (by decide)
    have z4 : zer0 m4 = true := eqL_get E1 (i := 4) (by decide)
    have z6 : zer0 m6 = true := eqL_get E1 (i := 6) (by decide)
    have z7 : zer0 m7 = true := eqL_get E1 (i := 7) (by decide)
    have z8 : zer0 m8 = true := eqL_get E1 (i := 8) (by decide)
    have z9 : zer0 m9 = true := eqL_get E1 (i := 9) (by decide)
    have z11 : zer0 m11 = true := eqL_get E1 (i := 11) (by decide)
    subst e0 e5 e10
    have H1 := Lib.hid z1
    have H2 := Lib.hid z2
    have H3 := Lib.hid z3
    have H4 := Lib.hid z4
    have H6 := Lib.hid z6
    have H7 := Lib.hid z7
    have H8 := Lib.hid z8
    have H9 := Lib.hid z9
    have H11 := Lib.hid z11
    clear E1 z1 z2 z3 z4 z6 z7 z8 z9 z11
    go_wp2_with fail
    go_ret
    refine ⟨_, rfl, ⟨91, #[.pointer (some ⟨p1, 0, none⟩)], rfl, fun args u => enters Tryz.func91 (by kernel_rfl) (by kernel_rfl) _ _, fun u hb => ?_⟩, HW.out⟩
    have X := X1.out.keep hb
    simpa using change_mx p1 a b c d m1 m2 m3 m4 m6 m7 m8 m9 m11 u hP H1.out H2.out H3.out H4.out H6.out H7.out H8.out H9.out H11.out (by rw [X.all.1, HG.out.mix.2 0 (by omega), HFl.out.mix]; rfl) (by rw [X.all.1, HG.out.mix.2 1 (by omega), HFl.out.mix]; rfl) (by rw [X.all.1, HG.out.mix.2 2 (by omega), HFl.out.mix]; rfl) (by rw [X.all.1, HG.out.mix.2 3 (by omega), HFl.out.mix]; rfl) (by rw [X.all.1, HG.out.mix.2 4 (by omega), HFl.out.mix]; rfl) (by rw [X.all.1, HG.out.mix.2 5 (by omega), HFl.out.mix]; rfl) (by rw [X.all.1, HG.out.mix.2 6 (by omega), HFl.out.mix]; rfl) (by rw [X.all.1, HG.out.mix.2 7 (by omega), HFl.out.mix]; rfl) (by rw [X.all.1, HG.out.mix.2 8 (by omega), HFl.out.mix]; rfl) (by rw [X.all.1, HG.out.mix.2 9 (by omega), HFl.out.mix]; rfl) (by rw [X.all.1, HG.out.mix.2 10 (by omega), HFl.out.mix]; rfl) (by rw [X.all.1, HG.out.mix.2 11 (by omega), HFl.out.mix]; rfl)
  · obtain ⟨e1, z1⟩ := HN.out.2.2.2.2.1 rfl
    have e2 : g.amt = 1065353216 := eqF_one HE.out.2.2.amt e1
    have HZ := Lib.hid (And.intro e2 z1)
    clear e1 z1 e2
    go_wp2_with fail
    go_ret
    refine ⟨_, rfl, ⟨93, #[.pointer (some ⟨p1, 0, none⟩)], rfl, fun args u => enters Tryz.func93 (by kernel_rfl) (by kernel_rfl) _ _, fun u hb => ?_⟩, HW.out⟩
    have X := X1.out.keep hb
    simpa using change_co p1 a b c d g.piv u hP HZ.out.2 (by rw [X.all.1, HG.out.piv]) (by rw [X.all.1, HG.out.amt, HZ.out.1])
  · obtain ⟨e1, e2, e3⟩ := HN.out.2.2.2.2.2 rfl
    subst e1 e2 e3
    go_wp2_with fail
    go_ret
    refine ⟨_, rfl, ⟨97, #[.pointer (some ⟨p1, 0, none⟩)], rfl, fun args u => enters Tryz.func97 (by kernel_rfl) (by kernel_rfl) _ _, fun u hb => ?_⟩, HW.out⟩
    have X := X1.out.keep hb
    simpa using change_pr p1 a b c d u hP (by rw [X.all.1, HG.out.pts.2 0 (by omega), HFl.out.pts]; rfl) (by rw [X.all.1, HG.out.pts.2 1 (by omega), HFl.out.pts]; rfl) (by rw [X.all.1, HG.out.pts.2 2 (by omega), HFl.out.pts]; rfl)
end

section
open Go.RowKit Go.Lib

/-- The call of a grade's function, under way. -/
structure StA (W2 : World) (p4 a b c d : Nat) (d1 d3 d4 : Bool) (v1 v3 : Value) (w : World) : Prop where
  kx : Kx p4 W2 w
  lt : p4 < W2.heap.size
  f31 : d3 = true → d1 = true
  f43 : d4 = true → d3 = true
  st : d1 = false → w = W2
  fn : d1 = true → d3 = false → FnPx w v1 a b c d
  px : d3 = true → ∃ q0 q1 q2 q3, v3 = .agg #[.float .f32 q0, .float .f32 q1, .float .f32 q2, .float .f32 q3] ∧ eqL [q0, q1, q2, q3] [a, b, c, d] = true
  z0 : d4 = false → Bx w p4 25 #[.float .f32 0, .float .f32 0, .float .f32 0, .float .f32 0]
  z1 : d4 = true → ∃ q0 q1 q2 q3, Bx w p4 25 #[.float .f32 q0, .float .f32 q1, .float .f32 q2, .float .f32 q3] ∧ eqL [q0, q1, q2, q3] [a, b, c, d] = true
theorem StA.set1 {W2 : World} {p4 a b c d : Nat} {d1 d3 d4 : Bool} {v1 v3 : Value} {w : World} (h : StA W2 p4 a b c d d1 d3 d4 v1 v3 w) (h1 : d1 = false) {v : Value} {w' : World} (hb : Below w.heap.size w w') (hv : FnPx w' v a b c d) : StA W2 p4 a b c d true d3 d4 v v3 w' := by
  subst h1
  have e3 : d3 = false := by
    cases d3
    · rfl
    · exact absurd (h.f31 rfl) (by decide)
  have e4 : d4 = false := by
    cases d4
    · rfl
    · have := h.f43 rfl; rw [e3] at this; cases this
  subst e3 e4
  exact ⟨h.kx.call hb, h.lt, fun _ => rfl, fun e => (by cases e), fun e => (by cases e), fun _ _ => hv, fun e => (by cases e), fun _ => (h.z0 rfl).keep hb, fun e => (by cases e)⟩
theorem StA.set3 {W2 : World} {p4 a b c d : Nat} {d1 d3 d4 : Bool} {v1 v3 : Value} {w : World} (h : StA W2 p4 a b c d d1 d3 d4 v1 v3 w) (h1 : d1 = true) (h3 : d3 = false) {e : Ending} {w' : World} (hb : Below w.heap.size w w') (hv : PxOk a b c d e) : ∃ v, e = .returned v ∧ StA W2 p4 a b c d d1 true d4 v1 v w' := by
  subst h1 h3
  have e4 : d4 = false := by
    cases d4
    · rfl
    · exact absurd (h.f43 rfl) (by decide)
  subst e4
  obtain ⟨q0, q1, q2, q3, rfl, hq⟩ := hv
  exact ⟨_, rfl, h.kx.call hb, h.lt, fun _ => rfl, fun e => (by cases e), fun e => (by cases e), fun _ e => (by cases e), fun _ => ⟨q0, q1, q2, q3, rfl, hq⟩, fun _ => (h.z0 rfl).keep hb, fun e => (by cases e)⟩
theorem StA.set4 {W2 : World} {p4 a b c d : Nat} {d1 d3 d4 : Bool} {v1 v3 : Value} {w : World} (h : StA W2 p4 a b c d d1 d3 d4 v1 v3 w) (h3 : d3 = true) (h4 : d4 = false) {q0 q1 q2 q3 : Nat} (hv : v3 = .agg #[.float .f32 q0, .float .f32 q1, .float .f32 q2, .float .f32 q3]) (hq : eqL [q0, q1, q2, q3] [a, b, c, d] = true) :
    StA W2 p4 a b c d d1 d3 true v1 v3 ((((w.setCell ⟨p4, 0, none⟩ (.float .f32 q0)).setCell ⟨p4, 1, none⟩ (.float .f32 q1)).setCell ⟨p4, 2, none⟩ (.float .f32 q2)).setCell ⟨p4, 3, none⟩ (.float .f32 q3)) := by
  subst h3 h4
  have h1 := h.f31 rfl
  subst h1
  exact ⟨h.kx.put.put.put.put, h.lt, fun _ => rfl, fun _ => rfl, fun e => (by cases e), fun _ e => (by cases e), fun _ => ⟨q0, q1, q2, q3, hv, hq⟩, fun e => (by cases e), fun _ => ⟨q0, q1, q2, q3, ((((h.z0 rfl).set 0 _).set 1 _).set 2 _).set 3 _, hq⟩⟩
theorem run_go_callF {F : FuncId} (hcf : ∀ (args : Array Value) (u : World), (callFunc F args).run Tryz.prog u = .ok (.enter F args) u)
    (a : Act) (dst : Option Tmp) (t : Tmp) (cap : Array Value) (xs : Array Operand) (ats : Array TypeId) (ty : TypeId) (pos : String) (after : Array Edge) (guard : Option (Nat × Bool)) (w : World) (args : Array Value)
    (ht : a.tmps[t]?.getD undef = .func (.func F) #[] cap) (hx : xs.map a.eval ++ cap = args) :
    (execOp a.eval { dst, op := .call { callee := .value (.tmp t), args := xs, argTypes := ats }, type := ty, pos, after, guard }).run Tryz.prog w = .ok (.enter F args) w := by
  subst hx
  have ht' : a.eval (.tmp t) = .func (.func F) #[] cap := by simpa [Act.eval] using ht
  simp only [execOp, resolve, ht', Deferred.ofValue]
  simp [invoke, hcf]
set_option maxRecDepth 100000 in
set_option maxHeartbeats 16000000 in
theorem grade_ApplyN (C : Array Value) (g : Gd) (W : World) (hG : GdAt W C g) (he : gradeErr g = 0) (hn : neutB g = true) (hw : GdW g) (a b c c4 : Nat) (hP : Px4 a b c c4) :
    Calls Tryz.prog 17 #[.agg C, .agg #[.float .f32 a, .float .f32 b, .float .f32 c, .float .f32 c4]] W fun e w' => (∃ q0 q1 q2 q3, e = .returned (.tuple #[.agg #[.float .f32 q0, .float .f32 q1, .float .f32 q2, .float .f32 q3], .int .i64 0]) ∧ eqL [q0, q1, q2, q3] [a, b, c, c4] = true) ∧ Below W.heap.size W w' := by
  have HG := Lib.hid hG
  have HE := Lib.hid (And.intro he (And.intro hn (And.intro hw hP)))
  clear hG he hn hw hP
  go_enter Tryz.func17, Tryz.ntmps17
  go_upto_region 1 with fail
  refine name_world ?_
  intro W1 hW1
  have hsz1 : (W.alloc (.cells C 46)).heap.size = W.heap.size + 1 := Array.size_push _
  have X2 : Hid (Bx W1 W.heap.size 46 C) := Lib.hid (by rw [hW1]; exact Bx.alloc (Bx.alloc (Bx.new _ _ _) _) _)
  have X3 : Hid (Bx W1 (W.heap.size + 1) 25 #[.float .f32 a, .float .f32 b, .float .f32 c, .float .f32 c4]) := Lib.hid (by rw [hW1]; exact Bx.alloc (Bx.at _ (by simp)) _)
  have X4 : Hid (Bx W1 (W.heap.size + 1 + 1) 25 #[.float .f32 0, .float .f32 0, .float .f32 0, .float .f32 0]) := Lib.hid (by rw [hW1]; exact Bx.at _ (by simp))
  have HW : Hid (Below W.heap.size W W1) := Lib.hid (by rw [hW1]; exact bnew (bnew (bnew (Below.refl _ W))))
  obtain ⟨p2, hp2⟩ : ∃ p, W.heap.size = p := ⟨_, rfl⟩
  have HP2 := Lib.hid hp2
  try rw [hsz1]
  rw [hp2] at X2 X3 X4 ⊢
  clear hW1 hp2 hsz1
  obtain ⟨p3, hp3⟩ : ∃ p, p2 + 1 = p := ⟨_, rfl⟩
  have h3 : p2 < p3 := by omega
  rw [hp3] at X3 X4 ⊢
  clear hp3
  obtain ⟨p4, hp4⟩ : ∃ p, p3 + 1 = p := ⟨_, rfl⟩
  have h4 : p3 < p4 := by omega
  rw [hp4] at X4 ⊢
  clear hp4
  have hsz : (Tryz.prog.info? 46).map (·.size) = some C.size := by rw [HG.out.size]; exact grade_size
  go_wp2_with (refine wpList_load_cells rfl 46 (.tmp 2) rfl p2 0 rfl C (fun j v hj => by rw [X2.out.all.1, Nat.zero_add]; exact hj) _ Tryz.underlying46 rfl hsz ?_)
  refine (grade_CheckGrade C g _ (HG.out.keep HW.out)).mono ?_
  rintro e w2 ⟨rfl, hb2⟩
  rw [HE.out.1]
  have X2b := Lib.hid (X2.out.keep hb2)
  have X3b := Lib.hid (X3.out.keep hb2)
  have X4b := Lib.hid (X4.out.keep hb2)
  have HB := Lib.hid (bcall HW.out hb2)
  clear hb2
  go_wp2_with fail
  obtain ⟨w2d, hw2d⟩ : ∃ w, w2.drew = w := ⟨_, rfl⟩
  have Y2 : Hid (Bx w2d p2 46 C) := Lib.hid (by rw [← hw2d]; exact X2b.out)
  have Y3 : Hid (Bx w2d p3 25 #[.float .f32 a, .float .f32 b, .float .f32 c, .float .f32 c4]) := Lib.hid (by rw [← hw2d]; exact X3b.out)
  have Y4 : Hid (Bx w2d p4 25 #[.float .f32 0, .float .f32 0, .float .f32 0, .float .f32 0]) := Lib.hid (by rw [← hw2d]; exact X4b.out)
  have HBd : Hid (Below W.heap.size W w2d) := Lib.hid (by rw [← hw2d]; exact HB.out.drew)
  refine wp_region_inv 6 (fun qz u' => if qz = 1 then True else if qz = 3 then True else u' = [(.agg C), undef, (.agg #[.float .f32 a, .float .f32 b, .float .f32 c, .float .f32 c4]), undef, undef, (.int .i64 0)].getD qz undef) (fun d vs w' => StA w2d p4 a b c c4 (d 1) (d 3) (d 4) (vs 1) (vs 3) w') (by kernel_rfl) (by kernel_rfl) ?_ ?_ ?_
  · intro vs
    rw [hw2d]
    exact ⟨Kx.refl _ _, Y4.out.lt, fun e => (by cases e), fun e => (by cases e), fun _ => rfl, fun e => (by cases e), fun e => (by cases e), fun _ => Y4.out, fun e => (by cases e)⟩
  · intro iq oq hi ho
    rcases (by omega : iq = 0 ∨ iq = 1 ∨ iq = 2 ∨ iq = 3 ∨ iq = 4 ∨ iq = 5) with rfl | rfl | rfl | rfl | rfl | rfl
    all_goals simp only [List.getElem?_cons_zero, List.getElem?_cons_succ, Option.some.injEq] at ho
    all_goals subst ho
    all_goals intro d a0 wx hI hag hdep hun
    · have e0 := slot_eq (hag 2 rfl)
      have hx : ∀ (j : Nat) (v : Value), C[j]? = some v → wx.cell? ⟨p2, 0 + j, none⟩ = some v := fun j v hj => by rw [((hI.kx).bx Y2.out (by omega)).all.1, Nat.zero_add]; exact hj
      exact inv_val (v := .agg C) (run_load_op rfl (by simp [Act.eval, e0]) C hx _ Tryz.underlying46 rfl hsz) (fun h => (by cases h)) rfl hI
    · have e0 := slot_eq (hdep ⟨0, .data⟩ (by simp) rfl).1
      have hst := hI.st hun
      refine inv_call (f := 39) (args := #[.agg C]) (run_go_call Tryz.func39 (by kernel_rfl) (by kernel_rfl) _ _ _ _ _ _ _ _ _ _ (by simp [Act.eval, e0])) (fun h => (by cases h)) ?_
      refine (grade_changeN C g wx (by rw [hst]; exact HG.out.keep HBd.out) HE.out.1 HE.out.2.1 HE.out.2.2.1 a b c c4 HE.out.2.2.2).mono ?_
      rintro e w' ⟨v, rfl, hv, hb⟩
      exact ⟨v, rfl, trivial, hI.set1 hun hb hv⟩
    · have e0 := slot_eq (hag 3 rfl)
      obtain ⟨z, _, _⟩ := ((hI.kx).bx Y3.out (by omega)).all
      have z0 := z 0
      have z1 := z 1
      have z2 := z 2
      have z3 := z 3
      simp only [List.getElem?_toArray, List.getElem?_cons_zero, List.getElem?_cons_succ] at z0 z1 z2 z3
      exact inv_val (v := .agg #[.float .f32 a, .float .f32 b, .float .f32 c, .float .f32 c4]) (by simp [go_sem, e0, z0, z1, z2, z3]) (fun h => (by cases h)) rfl hI
    · have hd1 := (hdep ⟨1, .data⟩ (by simp) rfl).2
      obtain ⟨F, cap, hv1, hcf, hK⟩ := hI.fn hd1 hun
      have e0 := slot_eq hv1
      have e1 := slot_eq (hdep ⟨2, .data⟩ (by simp) rfl).1
      refine inv_call (f := F) (args := #[.agg #[.float .f32 a, .float .f32 b, .float .f32 c, .float .f32 c4]] ++ cap) (run_go_callF hcf _ _ _ _ _ _ _ _ _ _ _ _ e0 (by simp [Act.eval, e1])) (fun h => (by cases h)) ?_
      refine (hK wx (Below.refl _ _)).mono ?_
      rintro e w' ⟨hv, hb⟩
      obtain ⟨v, rfl, h5⟩ := hI.set3 hd1 hun hb hv
      exact ⟨v, rfl, trivial, h5⟩
    · have hd3 := (hdep ⟨3, .data⟩ (by simp) rfl).2
      have hd1 := hI.f31 hd3
      have e0 := slot_eq (hag 4 rfl)
      obtain ⟨q0, q1, q2, q3, hv3, hq⟩ := hI.px hd3
      have e1 := slot_eq hv3
      have hz := hI.z0 hun
      obtain ⟨z, zf, _⟩ := hz.all
      have z0 := z 0
      have z1 := z 1
      have z2 := z 2
      have z3 := z 3
      simp only [List.getElem?_toArray, List.getElem?_cons_zero, List.getElem?_cons_succ] at z0 z1 z2 z3
      have h6 := hI.set4 hd3 hun hv3 hq
      exact inv_skip (by simp [go_sem, e0, e1, z0, z1, z2, z3, zf]) rfl h6
    · exact inv_val (v := .int .i64 0) (by simp [go_sem]) (fun h => (by cases h)) rfl hI
  · intro d vs w6 hd hI hA
    have k0 : vs 0 = (.agg C) := hA 0 (by omega)
    have k2 : vs 2 = (.agg #[.float .f32 a, .float .f32 b, .float .f32 c, .float .f32 c4]) := hA 2 (by omega)
    have k5 : vs 5 = (.int .i64 0) := hA 5 (by omega)
    simp only [putAll, dstAt, List.getElem?_toArray, List.getElem?_cons_zero, List.getElem?_cons_succ, Option.bind_some, Option.bind_none, Act.put, List.setIfInBounds_toArray, List.set_cons_zero, List.set_cons_succ, k0, k2, k5]
    obtain ⟨q0, q1, q2, q3, hz, hq⟩ := hI.z1 (hd 4 (by omega))
    have HK := Lib.hid (And.intro hI.kx hq)
    obtain ⟨z, zf, _⟩ := hz.all
    have z0 := z 0
    have z1 := z 1
    have z2 := z 2
    have z3 := z 3
    simp only [List.getElem?_toArray, List.getElem?_cons_zero, List.getElem?_cons_succ] at z0 z1 z2 z3
    generalize vs 1 = u1 at *
    generalize vs 3 = u3 at *
    clear hI hA hd k0 k2 k5 z zf hz hq
    go_wp2_with fail
    refine bodyPost_ret (v := .tuple #[.agg #[.float .f32 q0, .float .f32 q1, .float .f32 q2, .float .f32 q3], .int .i64 0]) (by simp [results, Tryz.results17, go_sem, z0, z1, z2, z3]) rfl ⟨⟨q0, q1, q2, q3, rfl, HK.out.2⟩, below_kx HBd.out HK.out.1 (by rw [HP2.out]; omega) (HBd.out.size)⟩
end
end Go.Proofs.YticekgnmiaidjaaGreatDoor
