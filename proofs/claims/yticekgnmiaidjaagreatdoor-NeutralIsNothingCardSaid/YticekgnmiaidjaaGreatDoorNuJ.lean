/- Wheels, Mixer, Printer and the closures of change, where they are neutral. (printed by gen_nuj.py) -/
import Derived.Test.YticekgnmiaidjaaGreatDoorNuH
import Derived.Test.YticekgnmiaidjaaGreatDoorAbs
namespace Go.Proofs.YticekgnmiaidjaaGreatDoor

section
open Go.RowKit Go.Lib

theorem run_archFloor (b : Nat) (s : Bool) (k : Nat) (l : Int) (h : FloatKind.f64.decode b = .number s k l) (w : World) :
    (callFunc 221 #[.float .f64 b]).run Tryz.prog w = .ok (.value (.float .f64 (FloatKind.f64.encode ((Ieee.Datum.number s k l).integral .down)))) w := by
  rw [run_callFunc_extern Tryz.func221 (by kernel_rfl) (by kernel_rfl) (by kernel_rfl) (e := Extern.MathFloor.toIntegral "math.archFloor" .down) (by kernel_rfl)]
  have e : Extern.MathFloor.toIntegral "math.archFloor" .down #[.float .f64 b] = Ieee.Datum.casesOn (motive := fun _ => Sem Value) (FloatKind.f64.decode b) (fun s k l => pure (.float .f64 (FloatKind.f64.encode ((Ieee.Datum.number s k l).integral .down)))) (fun s => pure (.float .f64 (FloatKind.f64.encode ((Ieee.Datum.infinity s).integral .down))))
      (fun s t => if FloatKind.f64.format.quiet t = t then pure (.float .f64 b) else do
        let kept ← choose (.extern "math.Floor,Ceil,Trunc,RoundToEven.signallingNaN kept" 2)
        pure (.float .f64 (if kept == 1 then b else FloatKind.f64.encode (.nan s (FloatKind.f64.format.quiet t))))) := by
    show (match FloatKind.f64.decode b with | .nan s t => _ | d => _) = _
    cases FloatKind.f64.decode b <;> rfl
  rw [e, h]
  rfl

theorem math_Floor (b : Nat) (s : Bool) (k : Nat) (l : Int) (h : FloatKind.f64.decode b = .number s k l) (w : World) :
    Calls Tryz.prog 192 #[.float .f64 b] w fun e w' => e = .returned (.float .f64 (FloatKind.f64.encode ((Ieee.Datum.number s k l).integral .down))) ∧ w = w' := by
  have hf := run_archFloor b s k l h
  generalize FloatKind.f64.encode ((Ieee.Datum.number s k l).integral .down) = r at *
  go_enter Tryz.func192, Tryz.ntmps192
  go_wp2
  go_ret
  exact ⟨rfl, rfl⟩


theorem arith64 (op : BinOp) {x y r : Nat} (h : floatBits op .f64 x y = some r) (w : World) (t : TypeId) : (binOp op t (.float .f64 x) (.float .f64 y)).run Tryz.prog w = .ok (.float .f64 r) w := run_float_arith w op t .f64 x y r h
set_option maxRecDepth 100000 in
theorem math_Abs1 (w : World) : Calls Tryz.prog 262 #[.float .f64 4607182418800017408] w fun e w' => e = .returned (.float .f64 4607182418800017408) ∧ w = w' := by
  have h : (bits .andNot .u64 4607182418800017408 9223372036854775808).toNat = 4607182418800017408 := by decide
  go_enter Tryz.func262, Tryz.ntmps262
  go_wp2
  go_ret
  exact ⟨rfl, rfl⟩
set_option maxRecDepth 100000 in
theorem math_IsNaN1 (w : World) : Calls Tryz.prog 252 #[.float .f64 4607182418800017408] w fun e w' => e = .returned (.bool false) ∧ w = w' := by
  have h : (FloatKind.f64.format.order 4607182418800017408 4607182418800017408 == some .eq) = true := by decide
  have h2 : (FloatKind.f64.format.order 4607182418800017408 4607182418800017408 != some .eq) = false := by decide
  go_enter Tryz.func252, Tryz.ntmps252
  go_wp2
  go_ret
  exact ⟨rfl, rfl⟩
set_option maxRecDepth 100000 in
theorem math_IsInf1 (w : World) : Calls Tryz.prog 251 #[.float .f64 4607182418800017408, .int .i64 0] w fun e w' => e = .returned (.bool false) ∧ w = w' := by
  have h : (FloatKind.f64.format.order 4607182418800017408 9218868437227405311 == some .gt) = false := by decide
  go_enter Tryz.func251, Tryz.ntmps251
  go_wp2_with (go_at_call 262; refine (math_Abs1 _).mono ?_; rintro e w' ⟨rfl, rfl⟩)
  go_ret
  exact ⟨rfl, rfl⟩
set_option maxRecDepth 100000 in
theorem math_normalize1 (w : World) : Calls Tryz.prog 253 #[.float .f64 4607182418800017408] w fun e w' => e = .returned (.tuple #[.float .f64 4607182418800017408, .int .i64 0]) ∧ w = w' := by
  have h : (FloatKind.f64.format.order 4607182418800017408 4503599627370496 == some .lt) = false := by decide
  go_enter Tryz.func253, Tryz.ntmps253
  go_wp2_with (go_at_call 262; refine (math_Abs1 _).mono ?_; rintro e w' ⟨rfl, rfl⟩)
  go_ret2
  exact ⟨rfl, rfl⟩
set_option maxRecDepth 100000 in
set_option maxHeartbeats 4000000 in
theorem math_ldexp1 (w : World) : Calls Tryz.prog 220 #[.float .f64 4607182418800017408, .int .i64 0] w fun e w' => e = .returned (.float .f64 4607182418800017408) ∧ w = w' := by
  have h : (FloatKind.f64.format.order 4607182418800017408 0 == some .eq) = false := by decide
  have t1 : bits .and .i64 1023 2047 = 1023 := by decide
  have t2 : bits .andNot .u64 4607182418800017408 9218868437227405312 = 0 := by decide
  have t3 : bits .or .u64 0 4607182418800017408 = 4607182418800017408 := by decide
  have m1 := fun w t => arith64 .mul (x := 4607182418800017408) (y := 4607182418800017408) (r := 4607182418800017408) (by decide) w t
  go_enter Tryz.func220, Tryz.ntmps220
  go_wp2_with (first | (go_at_call 251; refine (math_IsInf1 _).mono ?_; rintro e w' ⟨rfl, rfl⟩) | (go_at_call 252; refine (math_IsNaN1 _).mono ?_; rintro e w' ⟨rfl, rfl⟩) | (go_at_call 253; refine (math_normalize1 _).mono ?_; rintro e w' ⟨rfl, rfl⟩))
  go_ret
  exact ⟨rfl, rfl⟩
set_option maxRecDepth 100000 in
theorem math_Ldexp1 (w : World) : Calls Tryz.prog 191 #[.float .f64 4607182418800017408, .int .i64 0] w fun e w' => e = .returned (.float .f64 4607182418800017408) ∧ w = w' := by
  go_enter Tryz.func191, Tryz.ntmps191
  go_wp2_with (go_at_call 220; refine (math_ldexp1 _).mono ?_; rintro e w' ⟨rfl, rfl⟩)
  go_ret
  exact ⟨rfl, rfl⟩
theorem half_floor : ∃ s k l, FloatKind.f64.decode 4602678819172646912 = .number s k l ∧ FloatKind.f64.encode ((Ieee.Datum.number s k l).integral .down) = 0 := ⟨false, 4503599627370496, -53, by decide, by decide⟩
theorem quo_zero : ∀ n : Nat, n < 14 → floatBits .quo .f64 0 (floatOfInt .f64 ((n + 1 : Nat) : Int)) = some 0 := by decide
set_option maxRecDepth 100000 in
set_option maxHeartbeats 4000000 in
theorem num_exp0 (W : World) : Calls Tryz.prog 161 #[.float .f64 0] W fun e w' => e = .returned (.float .f64 4607182418800017408) ∧ W = w' := by
  have o1 : (FloatKind.f64.format.order 0 13864612927836782592 == some .lt) = false := by decide
  have o2 : (FloatKind.f64.format.order 0 4641240890982006784 == some .gt) = false := by decide
  have b1 := fun w t => arith64 .add (x := 0) (y := 4602678819172646912) (r := 4602678819172646912) (by decide) w t
  have b2 := fun w t => arith64 .sub (x := 0) (y := 0) (r := 0) (by decide) w t
  have b3 := fun w t => arith64 .mul (x := 0) (y := 4604418534313441775) (r := 0) (by decide) w t
  have b4 := fun w t => arith64 .mul (x := 4607182418800017408) (y := 0) (r := 0) (by decide) w t
  have b5 := fun w t => arith64 .add (x := 4607182418800017408) (y := 0) (r := 4607182418800017408) (by decide) w t
  have c1 := fun w => run_convert_float_int (P := Tryz.prog) w 153 3 .f64 .i64 0 0 (by kernel_rfl) Tryz.underlying3 (by decide)
  obtain ⟨s, k, l, f1, f2⟩ := half_floor
  have hf := math_Floor 4602678819172646912 s k l f1
  rw [f2] at hf
  clear f1 f2
  go_enter Tryz.func161, Tryz.ntmps161
  go_wp2_with (go_at_call 192; refine (hf _).mono ?_; rintro e w' ⟨rfl, rfl⟩)
  go_loopw [5, 6] (fun pv nv wr => ∃ n : Nat, n ≤ 14 ∧ pv = .float .f64 4607182418800017408 ∧ nv = .int .i64 (n : Int) ∧ wr = W) (fun _ nv _ => (RowKit.intOf nv).toNat)
  case atStart => exact ⟨14, by omega, rfl, rfl, by trivial⟩
  case round =>
    obtain ⟨n, hn, rfl, rfl, rfl⟩ := hrel
    by_cases h0 : n = 0
    · subst h0
      rw [show ((0 : Nat) : Int) = 0 from rfl]
      go_wp2_with (go_at_call 191; refine (math_Ldexp1 _).mono ?_; rintro e w' ⟨rfl, rfl⟩)
      go_ret
      exact ⟨rfl, rfl⟩
    · obtain ⟨m, rfl⟩ : ∃ m, n = m + 1 := ⟨n - 1, by omega⟩
      have q := quo_zero m (by omega)
      have b6 := fun w t => arith64 .quo q w t
      have hge : decide (((m + 1 : Nat) : Int) ≥ 1) = true := decide_eq_true (by omega)
      have hs : wrap64 (((m + 1 : Nat) : Int) - 1) = (m : Int) := by rw [IntWalk.wrap64_in _ ⟨by omega, by omega⟩]; omega
      clear q
      generalize hN : ((m + 1 : Nat) : Int) = N at *
      go_wp2_with fail
      go_roundw
      case rel => exact ⟨m, by omega, rfl, by rw [show N - 1 = (m : Int) by omega], by trivial⟩
      case measure => simp [RowKit.intOf]; omega
set_option maxRecDepth 100000 in
theorem num_exceptional0 (W : World) : Calls Tryz.prog 163 #[.float .f32 0] W fun e w' => e = .returned (.tuple #[.float .f32 0, .bool false]) ∧ W = w' := by
  have o1 : (FloatKind.f32.format.order 0 0 != some .eq) = false := by decide
  have o2 : (FloatKind.f32.format.order 0 2139095039 == some .gt) = false := by decide
  have o3 : (FloatKind.f32.format.order 0 4286578687 == some .lt) = false := by decide
  go_enter Tryz.func163, Tryz.ntmps163
  go_wp2
  go_ret2
  exact ⟨rfl, rfl⟩
set_option maxRecDepth 100000 in
theorem num_Exp2_0 (W : World) : Calls Tryz.prog 129 #[.float .f32 0] W fun e w' => e = .returned (.float .f32 1065353216) ∧ W = w' := by
  have c1 := fun w => run_convert_float_float (P := Tryz.prog) w 23 153 .f32 .f64 0 0 (by kernel_rfl) Tryz.underlying153 (by decide)
  have c2 := fun w => run_convert_float_float (P := Tryz.prog) w 153 23 .f64 .f32 4607182418800017408 1065353216 (by kernel_rfl) Tryz.underlying23 (by decide)
  go_enter Tryz.func129, Tryz.ntmps129
  go_wp2_with (first | (go_at_call 163; refine (num_exceptional0 _).mono ?_; rintro e w' ⟨rfl, rfl⟩) | (go_at_call 161; refine (num_exp0 _).mono ?_; rintro e w' ⟨rfl, rfl⟩))
  go_ret
  exact ⟨rfl, rfl⟩
end

section
open Go.RowKit Go.Lib

/-- Four numbers. -/
structure Px4 (a b c d : Nat) : Prop where
  ha : a < 4294967296
  hb : b < 4294967296
  hc : c < 4294967296
  na : isNum a = true
  nb : isNum b = true
  nc : isNum c = true
  nd : isNum d = true
/-- A pixel with the same numbers is handed out. -/
def PxOk (a b c d : Nat) (e : Ending) : Prop := ∃ q0 q1 q2 q3, e = .returned (.agg #[.float .f32 q0, .float .f32 q1, .float .f32 q2, .float .f32 q3]) ∧ eqL [q0, q1, q2, q3] [a, b, c, d] = true
theorem px_eq {a b c d r0 r1 r2 : Nat} (h : Px4 a b c d) (h0 : Nb a r0) (h1 : Nb b r1) (h2 : Nb c r2) : eqL [r0, r1, r2, canon d] [a, b, c, d] = true := by
  have e3 : canon d = d := nb_num h.nd (.inl rfl)
  rw [e3]
  show (eqF r0 a && (eqF r1 b && (eqF r2 c && (eqF d d && true)))) = true
  rw [show eqF r0 a = true from nb_eq h.na h0, show eqF r1 b = true from nb_eq h.nb h1, show eqF r2 c = true from nb_eq h.nc h2, show eqF d d = true from order_self' h.nd]
  rfl
set_option maxRecDepth 100000 in
set_option maxHeartbeats 8000000 in
theorem grade_WheelsN (a b c d l0 l1 l2 : Nat) (z_0 : zer0 l0 = true) (z_1 : zer0 l1 = true) (z_2 : zer0 l2 = true) (W : World) (hP : Px4 a b c d) : Calls Tryz.prog 88 #[.agg #[.float .f32 l0, .float .f32 l1, .float .f32 l2, .float .f32 1065353216, .float .f32 1065353216, .float .f32 1065353216, .float .f32 1065353216, .float .f32 1065353216, .float .f32 1065353216], .agg #[.float .f32 a, .float .f32 b, .float .f32 c, .float .f32 d]] W fun e w' => PxOk a b c d e ∧ Below W.heap.size W w' := by
  go_enter Tryz.func88, Tryz.ntmps88
  go_upto_region 1 with fail
  refine name_world ?_
  intro wb hwb
  have x2 : Hid (Bx wb W.heap.size 34 #[.float .f32 l0, .float .f32 l1, .float .f32 l2, .float .f32 1065353216, .float .f32 1065353216, .float .f32 1065353216, .float .f32 1065353216, .float .f32 1065353216, .float .f32 1065353216]) := Lib.hid (by rw [hwb]; exact Bx.alloc (Bx.alloc (Bx.new _ _ _) _) _)
  have x3 : Hid (Bx wb (W.heap.size + 1) 25 #[.float .f32 a, .float .f32 b, .float .f32 c, .float .f32 d]) := Lib.hid (by rw [hwb]; exact Bx.alloc (Bx.at _ (by simp)) _)
  have x4 : Hid (Bx wb (W.heap.size + 1 + 1) 25 #[.float .f32 0, .float .f32 0, .float .f32 0, .float .f32 0]) := Lib.hid (by rw [hwb]; exact Bx.at _ (by simp))
  have B : Hid (Below W.heap.size W wb) := Lib.hid (by rw [hwb]; exact bnew (bnew (bnew (Below.refl _ W))))
  obtain ⟨p2, hp2⟩ : ∃ p, W.heap.size = p := ⟨_, rfl⟩
  have HP2 := Lib.hid hp2
  rw [hp2] at x2 x3 x4 ⊢
  clear hwb hp2
  obtain ⟨p3, hp3⟩ : ∃ p, p2 + 1 = p := ⟨_, rfl⟩
  have h3 : p2 < p3 := by omega
  rw [hp3] at x3 x4 ⊢
  clear hp3
  obtain ⟨p4, hp4⟩ : ∃ p, p3 + 1 = p := ⟨_, rfl⟩
  have h4 : p3 < p4 := by omega
  rw [hp4] at x4 ⊢
  clear hp4
  have y0 := x3.out.all.1 0
  have y1 := x3.out.all.1 1
  have y2 := x3.out.all.1 2
  have y3 := x3.out.all.1 3
  simp only [List.getElem?_toArray, List.getElem?_cons_zero, List.getElem?_cons_succ] at y0 y1 y2 y3
  go_wp2_with fail
  refine (grade_three 122 #[.pointer (some ⟨p2, 0, none⟩)] a b c d (wheV a 1065353216 l0) (wheV b 1065353216 l1) (wheV c 1065353216 l2) _ ⟨fun args u => enters Tryz.func122 (by kernel_rfl) (by kernel_rfl) _ _, fun u hb => by simpa using wheels_0 p2 a l0 l1 l2 u (x2.out.keep hb) hP.ha hP.na z_0, fun u hb => by simpa using wheels_1 p2 b l0 l1 l2 u (x2.out.keep hb) hP.hb hP.nb z_1, fun u hb => by simpa using wheels_2 p2 c l0 l1 l2 u (x2.out.keep hb) hP.hc hP.nc z_2⟩).mono ?_
  rintro e w2 ⟨rfl, hb2⟩
  have x5 := Lib.hid (x4.out.keep hb2)
  have B2 := Lib.hid (bcall B.out hb2)
  obtain ⟨z, f, lt⟩ := x5.out.all
  have z0 := z 0
  have z1 := z 1
  have z2 := z 2
  have z3 := z 3
  simp only [List.getElem?_toArray, List.getElem?_cons_zero, List.getElem?_cons_succ] at z0 z1 z2 z3
  have HB : Hid (W.heap.size ≤ p4) := Lib.hid (by rw [HP2.out]; omega)
  clear z hb2
  go_wp2_with fail
  refine bodyPost_ret (v := .agg #[.float .f32 (wheV a 1065353216 l0), .float .f32 (wheV b 1065353216 l1), .float .f32 (wheV c 1065353216 l2), .float .f32 (canon d)]) (by simp [results, Tryz.results88, go_sem, z0, z1, z2, z3]) rfl ⟨⟨_, _, _, _, rfl, px_eq hP (wheV_nb hP.ha hP.na rfl z_0) (wheV_nb hP.hb hP.nb rfl z_1) (wheV_nb hP.hc hP.nc rfl z_2)⟩, ?_⟩
  have hle := HB.out
  repeat (refine bput (by omega) ?_)
  exact B2.out
set_option maxRecDepth 100000 in
set_option maxHeartbeats 8000000 in
theorem grade_MixerN (a b c d a1 a2 a3 b0 b2 b3 c0 c1 c3 : Nat) (za1 : zer0 a1 = true) (za2 : zer0 a2 = true) (za3 : zer0 a3 = true) (zb0 : zer0 b0 = true) (zb2 : zer0 b2 = true) (zb3 : zer0 b3 = true) (zc0 : zer0 c0 = true) (zc1 : zer0 c1 = true) (zc3 : zer0 c3 = true) (W : World) (hP : Px4 a b c d) : Calls Tryz.prog 92 #[.agg #[.float .f32 1065353216, .float .f32 a1, .float .f32 a2, .float .f32 a3, .float .f32 b0, .float .f32 1065353216, .float .f32 b2, .float .f32 b3, .float .f32 c0, .float .f32 c1, .float .f32 1065353216, .float .f32 c3], .agg #[.float .f32 a, .float .f32 b, .float .f32 c, .float .f32 d]] W fun e w' => PxOk a b c d e ∧ Below W.heap.size W w' := by
  go_enter Tryz.func92, Tryz.ntmps92
  go_upto_region 1 with fail
  refine name_world ?_
  intro wb hwb
  have x2 : Hid (Bx wb W.heap.size 43 #[.float .f32 1065353216, .float .f32 a1, .float .f32 a2, .float .f32 a3, .float .f32 b0, .float .f32 1065353216, .float .f32 b2, .float .f32 b3, .float .f32 c0, .float .f32 c1, .float .f32 1065353216, .float .f32 c3]) := Lib.hid (by rw [hwb]; exact Bx.alloc (Bx.alloc (Bx.new _ _ _) _) _)
  have x3 : Hid (Bx wb (W.heap.size + 1) 25 #[.float .f32 a, .float .f32 b, .float .f32 c, .float .f32 d]) := Lib.hid (by rw [hwb]; exact Bx.alloc (Bx.at _ (by simp)) _)
  have x4 : Hid (Bx wb (W.heap.size + 1 + 1) 25 #[.float .f32 0, .float .f32 0, .float .f32 0, .float .f32 0]) := Lib.hid (by rw [hwb]; exact Bx.at _ (by simp))
  have B : Hid (Below W.heap.size W wb) := Lib.hid (by rw [hwb]; exact bnew (bnew (bnew (Below.refl _ W))))
  obtain ⟨p2, hp2⟩ : ∃ p, W.heap.size = p := ⟨_, rfl⟩
  have HP2 := Lib.hid hp2
  rw [hp2] at x2 x3 x4 ⊢
  clear hwb hp2
  obtain ⟨p3, hp3⟩ : ∃ p, p2 + 1 = p := ⟨_, rfl⟩
  have h3 : p2 < p3 := by omega
  rw [hp3] at x3 x4 ⊢
  clear hp3
  obtain ⟨p4, hp4⟩ : ∃ p, p3 + 1 = p := ⟨_, rfl⟩
  have h4 : p3 < p4 := by omega
  rw [hp4] at x4 ⊢
  clear hp4
  have y0 := x3.out.all.1 0
  have y1 := x3.out.all.1 1
  have y2 := x3.out.all.1 2
  have y3 := x3.out.all.1 3
  simp only [List.getElem?_toArray, List.getElem?_cons_zero, List.getElem?_cons_succ] at y0 y1 y2 y3
  go_wp2_with fail
  refine (grade_three 127 #[.pointer (some ⟨p2, 0, none⟩), .pointer (some ⟨p3, 0, none⟩)] a b c d (mixV a b c 1065353216 a1 a2 a3) (mixV a b c b0 1065353216 b2 b3) (mixV a b c c0 c1 1065353216 c3) _ ⟨fun args u => enters Tryz.func127 (by kernel_rfl) (by kernel_rfl) _ _, fun u hb => by simpa using mixer_0 p2 p3 a b c d a1 a2 a3 b0 b2 b3 c0 c1 c3 u (x2.out.keep hb) (x3.out.keep hb) hP.ha hP.na hP.nb hP.nc za1 za2 za3, fun u hb => by simpa using mixer_1 p2 p3 a b c d a1 a2 a3 b0 b2 b3 c0 c1 c3 u (x2.out.keep hb) (x3.out.keep hb) hP.hb hP.na hP.nb hP.nc zb0 zb2 zb3, fun u hb => by simpa using mixer_2 p2 p3 a b c d a1 a2 a3 b0 b2 b3 c0 c1 c3 u (x2.out.keep hb) (x3.out.keep hb) hP.hc hP.na hP.nb hP.nc zc0 zc1 zc3⟩).mono ?_
  rintro e w2 ⟨rfl, hb2⟩
  have x5 := Lib.hid (x4.out.keep hb2)
  have B2 := Lib.hid (bcall B.out hb2)
  obtain ⟨z, f, lt⟩ := x5.out.all
  have z0 := z 0
  have z1 := z 1
  have z2 := z 2
  have z3 := z 3
  simp only [List.getElem?_toArray, List.getElem?_cons_zero, List.getElem?_cons_succ] at z0 z1 z2 z3
  have HB : Hid (W.heap.size ≤ p4) := Lib.hid (by rw [HP2.out]; omega)
  clear z hb2
  go_wp2_with fail
  refine bodyPost_ret (v := .agg #[.float .f32 (mixV a b c 1065353216 a1 a2 a3), .float .f32 (mixV a b c b0 1065353216 b2 b3), .float .f32 (mixV a b c c0 c1 1065353216 c3), .float .f32 (canon d)]) (by simp [results, Tryz.results92, go_sem, z0, z1, z2, z3]) rfl ⟨⟨_, _, _, _, rfl, px_eq hP (mixV_nb0 hP.ha hP.na hP.nb hP.nc rfl za1 za2 za3) (mixV_nb1 hP.hb hP.na hP.nb hP.nc zb0 rfl zb2 zb3) (mixV_nb2 hP.hc hP.na hP.nb hP.nc zc0 zc1 rfl zc3)⟩, ?_⟩
  have hle := HB.out
  repeat (refine bput (by omega) ?_)
  exact B2.out
end
end Go.Proofs.YticekgnmiaidjaaGreatDoor
