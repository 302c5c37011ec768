/- key.covered, kind by kind. (printed by gen_wnc.py) -/
import Derived.Test.YtfkiljhjiogdlaaWnA
import Derived.Test.YtfkiljhjiogdlaaWnB
namespace Go.Proofs.Ytfkiljhjiogdlaa
open Go.RowKit

theorem bx_eqd2 {w w' : World} {b m : Nat} {T : TypeId} {cs : Array Value} (h : w' = w.drewN m) (x : Bx w b T cs) : Bx w' b T cs := by rw [h]; exact x.drewN m
theorem b_eqd2 {W w w' : World} {B m : Nat} (h : w' = w.drewN m) (x : Below B W w) : Below B W w' := by rw [h]; exact below_drewN x m

set_option maxRecDepth 100000 in
set_option maxHeartbeats 4000000 in
theorem covered_box (x y : Int) (X Y Wd H S : Nat) (pv : Value) (out : Bool) (dx dy : Nat) (W : World) (edx : fop .sub (floatOfInt .f32 x) X = dx) (edy : fop .sub (floatOfInt .f32 y) Y = dy) (nx : ∃ s m i, rd dx = .number s m i ∧ (m = 0 ∨ i + m.log2 ≤ 126)) (ny : ∃ s m i, rd dy = .number s m i ∧ (m = 0 ∨ i + m.log2 ≤ 126)) (hW : ∃ s m i, rd Wd = .number s m i) (hH : ∃ s m i, rd H = .number s m i) (hS : ∃ s m i, rd S = .number s m i) (odd : Bool) : Calls Try.prog 28 #[.agg #[.int .i64 1, .float .f32 X, .float .f32 Y, .float .f32 Wd, .float .f32 H, .float .f32 S, pv, .bool out], .int .i64 x, .int .i64 y] W fun e w' => e = .returned (.float .f32 (covB 1 dx dy Wd H S odd out)) ∧ Below W.heap.size W w' := by
  have dxn : isNaN dx = false := by obtain ⟨_, _, _, h, _⟩ := nx; rw [isNaN_iff, h]; rfl
  have dyn : isNaN dy = false := by obtain ⟨_, _, _, h, _⟩ := ny; rw [isNaN_iff, h]; rfl
  obtain ⟨ax, bx⟩ := fres_is (op := .sub) (x := floatOfInt .f32 x) (y := X) (by rw [edx]; exact dxn)
  obtain ⟨ay, by_⟩ := fres_is (op := .sub) (x := floatOfInt .f32 y) (y := Y) (by rw [edy]; exact dyn)
  rw [edx] at ax
  rw [edy] at ay
  clear edx edy
  obtain ⟨_, _, _, h1, h2⟩ := nx
  obtain ⟨r1, r3, c1, c2, c3, k1, l1, hax⟩ := abs_ok h1 h2
  obtain ⟨_, _, _, h3, h4⟩ := ny
  obtain ⟨t1, t3, d1, d2, d3, k2, l2, hay⟩ := abs_ok h3 h4
  have L1 : Hid (∀ w, Calls Try.prog 74 #[.float .f32 dx] w fun e w' => e = .returned (.float .f32 (absF dx)) ∧ w = w') := Lib.hid fun w => by rw [← c3]; exact num_Abs dx r1 r3 w c1 c2
  have L2 : Hid (∀ w, Calls Try.prog 74 #[.float .f32 dy] w fun e w' => e = .returned (.float .f32 (absF dy)) ∧ w = w') := Lib.hid fun w => by rw [← d3]; exact num_Abs dy t1 t3 w d1 d2
  have nna : isNaN (absF dx) = false := by rw [isNaN_iff, hax]; rfl
  have nnb : isNaN (absF dy) = false := by rw [isNaN_iff, hay]; rfl
  have na := sub_nn_right nna hW
  have nb := sub_nn_right nnb hH
  have nd : isNaN (boxD dx dy Wd H) = false := box_nn ⟨_, _, _, hax⟩ ⟨_, _, _, hay⟩ hW hH
  have nv := edge_nn nd hS
  have E := Lib.hid (fun w => key_edge (boxD dx dy Wd H) S w nd hS)
  have hres : ∀ b, covB 1 dx dy Wd H S odd b = canon (if b then fop .sub oneB (edgeB (boxD dx dy Wd H) S) else edgeB (boxD dx dy Wd H) S) := fun b => rfl
  obtain ⟨aa, ba⟩ := fres_is na
  obtain ⟨ab, bb⟩ := fres_is nb
  have hb : boxD dx dy Wd H = if gtF (fop .sub (absF dy) H) (fop .sub (absF dx) Wd) then fop .sub (absF dy) H else fop .sub (absF dx) Wd := rfl
  rw [hres]
  generalize edgeB (boxD dx dy Wd H) S = v at *
  have Hb := Lib.hid hb
  clear hb hres h1 h2 h3 h4 c1 c2 c3 d1 d2 d3 hax hay nna nnb na nb nd hW hH hS dxn dyn
  generalize boxD dx dy Wd H = d at *
  generalize absF dx = adx at *
  generalize absF dy = ady at *
  generalize fop .sub adx Wd = pa at *
  generalize fop .sub ady H = pb at *
  go_enter Try.func28, Try.ntmps28
  go_upto_region 1 with fail
  refine name_world ?_
  intro w0 hw0
  have x3 : Bx w0 W.heap.size 25 #[.int .i64 1, .float .f32 X, .float .f32 Y, .float .f32 Wd, .float .f32 H, .float .f32 S, pv, .bool out] := by rw [hw0]; exact Bx.new _ _ _
  have B : Below W.heap.size W w0 := by rw [hw0]; exact bnew (Below.refl _ W)
  clear hw0
  obtain ⟨q3, f3, l3⟩ := x3.all
  go_upto_region 2 with fail
  go_quiet (fail)
  go_upto_region 3 with fail
  refine name_world ?_
  intro w1 hw1
  replace x3 := bx_eqd2 hw1 x3
  replace B := b_eqd2 hw1 B
  clear hw1 q3 f3 l3 ax bx ay by_
  obtain ⟨q3, f3, l3⟩ := x3.all
  go_upto_region 7 with fail
  go_quiet ((go_at_call 74; first | exact quiet_same (L1.out _) | exact quiet_same (L2.out _)))
  go_upto_region 8 with fail
  refine name_world ?_
  intro w2 hw2
  replace x3 := bx_eqd2 hw2 x3
  replace B := b_eqd2 hw2 B
  clear hw2 q3 f3 l3 aa ba ab bb
  obtain ⟨q3, f3, l3⟩ := x3.all
  cases hg : gtF pb pa
  · have g : (FloatKind.f32.format.order pb pa == some .gt) = false := hg
    have hd := Hb.out
    rw [hg, if_neg (by simp)] at hd
    subst hd
    clear hg Hb
    go_wp2_with fail
    refine (E.out _).mono ?_
    rintro e w3 ⟨rfl, rfl⟩
    go_upto_region 20 with fail
    cases out
    · go_wp2_with (go_at_call 59; refine (num_Clean _ _).mono ?_; rintro e w' ⟨rfl, rfl⟩)
      go_ret
      exact ⟨rfl, B⟩
    · obtain ⟨a9, b9⟩ := fres_is (op := .sub) (x := 1065353216) (y := v) (sub_nn_left ⟨_, _, _, rd_one⟩ nv)
      go_wp2_with (go_at_call 59; refine (num_Clean _ _).mono ?_; rintro e w' ⟨rfl, rfl⟩)
      go_ret
      exact ⟨rfl, B⟩
  · have g : (FloatKind.f32.format.order pb pa == some .gt) = true := hg
    have hd := Hb.out
    rw [hg, if_pos rfl] at hd
    subst hd
    clear hg Hb
    go_wp2_with fail
    refine (E.out _).mono ?_
    rintro e w3 ⟨rfl, rfl⟩
    go_upto_region 20 with fail
    cases out
    · go_wp2_with (go_at_call 59; refine (num_Clean _ _).mono ?_; rintro e w' ⟨rfl, rfl⟩)
      go_ret
      exact ⟨rfl, B⟩
    · obtain ⟨a9, b9⟩ := fres_is (op := .sub) (x := 1065353216) (y := v) (sub_nn_left ⟨_, _, _, rd_one⟩ nv)
      go_wp2_with (go_at_call 59; refine (num_Clean _ _).mono ?_; rintro e w' ⟨rfl, rfl⟩)
      go_ret
      exact ⟨rfl, B⟩

set_option maxRecDepth 100000 in
set_option maxHeartbeats 4000000 in
theorem covered_ell (x y : Int) (X Y Wd H S : Nat) (pv : Value) (out : Bool) (dx dy : Nat) (W : World) (edx : fop .sub (floatOfInt .f32 x) X = dx) (edy : fop .sub (floatOfInt .f32 y) Y = dy) (nx : ∃ s m i, rd dx = .number s m i ∧ (m = 0 ∨ i + m.log2 ≤ 126)) (ny : ∃ s m i, rd dy = .number s m i ∧ (m = 0 ∨ i + m.log2 ≤ 126)) (hW : ∃ s m i, rd Wd = .number s m i) (hH : ∃ s m i, rd H = .number s m i) (hS : ∃ s m i, rd S = .number s m i) (hk : nzF Wd ∧ nzF H) (odd : Bool) : Calls Try.prog 28 #[.agg #[.int .i64 2, .float .f32 X, .float .f32 Y, .float .f32 Wd, .float .f32 H, .float .f32 S, pv, .bool out], .int .i64 x, .int .i64 y] W fun e w' => e = .returned (.float .f32 (covB 2 dx dy Wd H S odd out)) ∧ Below W.heap.size W w' := by
  have dxn : isNaN dx = false := by obtain ⟨_, _, _, h, _⟩ := nx; rw [isNaN_iff, h]; rfl
  have dyn : isNaN dy = false := by obtain ⟨_, _, _, h, _⟩ := ny; rw [isNaN_iff, h]; rfl
  obtain ⟨ax, bx⟩ := fres_is (op := .sub) (x := floatOfInt .f32 x) (y := X) (by rw [edx]; exact dxn)
  obtain ⟨ay, by_⟩ := fres_is (op := .sub) (x := floatOfInt .f32 y) (y := Y) (by rw [edy]; exact dyn)
  rw [edx] at ax
  rw [edy] at ay
  clear edx edy
  have nx' : ∃ s m i, rd dx = .number s m i := by obtain ⟨s, m, i, h, _⟩ := nx; exact ⟨s, m, i, h⟩
  have ny' : ∃ s m i, rd dy = .number s m i := by obtain ⟨s, m, i, h, _⟩ := ny; exact ⟨s, m, i, h⟩
  obtain ⟨hq1, hq2⟩ := ellQ_nn nx' ny' hk.1 hk.2
  have na := quo_nn nx' hk.1
  have nb := quo_nn ny' hk.2
  have nn : ∀ {b}, pnF b → isNaN b = false := fun h => by
    rw [isNaN_iff]
    rcases h with ⟨_, _, h⟩ | h <;> rw [h] <;> rfl
  have n1 := nn (sq_pn na)
  have n2 := nn (sq_pn nb)
  have n3 := nn hq1
  have nv := ellV_nn hq2 hk.1 hk.2 hS
  have R := Lib.hid (fun w => num_Root _ w hq1)
  have hq : ellQ dx dy Wd H = rootF (fop .add (fop .mul (fop .quo dx Wd) (fop .quo dx Wd)) (fop .mul (fop .quo dy H) (fop .quo dy H))) := rfl
  have hres : ∀ b, covB 2 dx dy Wd H S odd b = canon (if b then fop .sub oneB (ellV (ellQ dx dy Wd H) Wd H S) else ellV (ellQ dx dy Wd H) Wd H S) := fun b => rfl
  have hl : nzF (if ltF H Wd then H else Wd) := by split; exact hk.2; exact hk.1
  have hv : ellV (ellQ dx dy Wd H) Wd H S = if gtF (ellQ dx dy Wd H) oneB then edgeB (fop .mul (fop .sub (ellQ dx dy Wd H) oneB) (if ltF H Wd then H else Wd)) S else oneB := rfl
  have hE : gtF (ellQ dx dy Wd H) oneB = true → isNaN (fop .sub (ellQ dx dy Wd H) oneB) = false ∧ isNaN (fop .mul (fop .sub (ellQ dx dy Wd H) oneB) (if ltF H Wd then H else Wd)) = false := fun _ => by
    have h1 := sub_nn_right hq2 ⟨_, _, _, rd_one⟩
    refine ⟨h1, ?_⟩
    generalize (if ltF H Wd then H else Wd) = l at hl
    obtain ⟨t, n, j, hs, hn⟩ := hl
    rcases cases_nn h1 with ⟨s, m, i, hr⟩ | ⟨s, hr⟩
    · exact mul_num ⟨_, _, _, hr⟩ ⟨_, _, _, hs⟩
    · refine fop_nn (d := .infinity (s ^^ t)) ?_ rfl
      rw [bits_mul, hr, hs]
      simp only [Ieee.Datum.product, if_neg hn, Option.map_some]
  rw [hres]
  rw [← hq] at R
  obtain ⟨aa, ba⟩ := fres_is na
  obtain ⟨ab, bb⟩ := fres_is nb
  obtain ⟨ac, bc⟩ := fres_is n1
  obtain ⟨ad, bd⟩ := fres_is n2
  obtain ⟨ae, be⟩ := fres_is n3
  have Hv := Lib.hid hv
  have HE := Lib.hid hE
  clear hq hres hv hE hl nx ny nx' ny' na nb n1 n2 n3 hk hW hH dxn dyn hq1 hq2 nn
  generalize ellV (ellQ dx dy Wd H) Wd H S = v at *
  generalize ellQ dx dy Wd H = q at *
  generalize fop .quo dx Wd = pa at *
  generalize fop .quo dy H = pb at *
  generalize fop .mul pa pa = pc at *
  generalize fop .mul pb pb = pd at *
  generalize fop .add pc pd = pe at *
  go_enter Try.func28, Try.ntmps28
  go_upto_region 1 with fail
  refine name_world ?_
  intro w0 hw0
  have x3 : Bx w0 W.heap.size 25 #[.int .i64 2, .float .f32 X, .float .f32 Y, .float .f32 Wd, .float .f32 H, .float .f32 S, pv, .bool out] := by rw [hw0]; exact Bx.new _ _ _
  have B : Below W.heap.size W w0 := by rw [hw0]; exact bnew (Below.refl _ W)
  clear hw0
  obtain ⟨q3, f3, l3⟩ := x3.all
  go_upto_region 2 with fail
  go_quiet (fail)
  go_upto_region 3 with fail
  refine name_world ?_
  intro w1 hw1
  replace x3 := bx_eqd2 hw1 x3
  replace B := b_eqd2 hw1 B
  clear hw1 q3 f3 l3 ax bx ay by_
  obtain ⟨q3, f3, l3⟩ := x3.all
  go_upto_region 12 with fail
  go_quiet (fail)
  go_upto_region 13 with fail
  refine name_world ?_
  intro w2 hw2
  replace x3 := bx_eqd2 hw2 x3
  replace B := b_eqd2 hw2 B
  clear hw2 q3 f3 l3 aa ba ab bb
  obtain ⟨q3, f3, l3⟩ := x3.all
  go_wp2_with fail
  refine (R.out _).mono ?_
  rintro e w3 ⟨rfl, rfl⟩
  have hl : ∃ l, (if ltF H Wd then H else Wd) = l := ⟨_, rfl⟩
  obtain ⟨l, hl⟩ := hl
  rw [hl] at Hv HE
  clear ac bc ad bd ae be
  cases hg : ltF H Wd
  all_goals
    rw [hg] at hl
    simp only [Bool.false_eq_true, if_false, if_true] at hl
    subst hl
  · have g : (FloatKind.f32.format.order H Wd == some .lt) = false := hg
    clear hg
    cases hg : gtF q oneB
    · have g2 : (FloatKind.f32.format.order q 1065353216 == some .gt) = false := hg
      have hd := Hv.out
      rw [hg, if_neg (by simp)] at hd
      have hd2 : v = 1065353216 := hd
      subst hd2
      clear hg Hv HE hd
      go_upto_region 20 with fail
      cases out
      · go_wp2_with (go_at_call 59; refine (num_Clean _ _).mono ?_; rintro e w' ⟨rfl, rfl⟩)
        go_ret
        exact ⟨rfl, B⟩
      · obtain ⟨a9, b9⟩ := fres_is (op := .sub) (x := 1065353216) (y := 1065353216) (sub_nn_left ⟨_, _, _, rd_one⟩ nv)
        go_wp2_with (go_at_call 59; refine (num_Clean _ _).mono ?_; rintro e w' ⟨rfl, rfl⟩)
        go_ret
        exact ⟨rfl, B⟩
    · have g2 : (FloatKind.f32.format.order q 1065353216 == some .gt) = true := hg
      obtain ⟨m1, m2⟩ := HE.out hg
      have hd := Hv.out
      rw [hg, if_pos rfl] at hd
      have m1' : isNaN (fop .sub q 1065353216) = false := m1
      have m2' : isNaN (fop .mul (fop .sub q 1065353216) Wd) = false := m2
      obtain ⟨af, bf⟩ := fres_is m1'
      obtain ⟨ag, bg⟩ := fres_is m2'
      have E := Lib.hid (fun w => key_edge _ S w m2' hS)
      have hd2 : edgeB (fop .mul (fop .sub q 1065353216) Wd) S = v := hd.symm
      rw [hd2] at E
      clear hg Hv HE hd hd2 m1 m2 m1' m2' hS
      generalize fop .sub q 1065353216 = q1 at *
      generalize fop .mul q1 Wd = q2 at *
      go_wp2_with fail
      refine (E.out _).mono ?_
      rintro e w4 ⟨rfl, rfl⟩
      go_upto_region 20 with fail
      cases out
      · go_wp2_with (go_at_call 59; refine (num_Clean _ _).mono ?_; rintro e w' ⟨rfl, rfl⟩)
        go_ret
        exact ⟨rfl, B⟩
      · obtain ⟨a9, b9⟩ := fres_is (op := .sub) (x := 1065353216) (y := v) (sub_nn_left ⟨_, _, _, rd_one⟩ nv)
        go_wp2_with (go_at_call 59; refine (num_Clean _ _).mono ?_; rintro e w' ⟨rfl, rfl⟩)
        go_ret
        exact ⟨rfl, B⟩
  · have g : (FloatKind.f32.format.order H Wd == some .lt) = true := hg
    clear hg
    cases hg : gtF q oneB
    · have g2 : (FloatKind.f32.format.order q 1065353216 == some .gt) = false := hg
      have hd := Hv.out
      rw [hg, if_neg (by simp)] at hd
      have hd2 : v = 1065353216 := hd
      subst hd2
      clear hg Hv HE hd
      go_upto_region 20 with fail
      cases out
      · go_wp2_with (go_at_call 59; refine (num_Clean _ _).mono ?_; rintro e w' ⟨rfl, rfl⟩)
        go_ret
        exact ⟨rfl, B⟩
      · obtain ⟨a9, b9⟩ := fres_is (op := .sub) (x := 1065353216) (y := 1065353216) (sub_nn_left ⟨_, _, _, rd_one⟩ nv)
        go_wp2_with (go_at_call 59; refine (num_Clean _ _).mono ?_; rintro e w' ⟨rfl, rfl⟩)
        go_ret
        exact ⟨rfl, B⟩
    · have g2 : (FloatKind.f32.format.order q 1065353216 == some .gt) = true := hg
      obtain ⟨m1, m2⟩ := HE.out hg
      have hd := Hv.out
      rw [hg, if_pos rfl] at hd
      have m1' : isNaN (fop .sub q 1065353216) = false := m1
      have m2' : isNaN (fop .mul (fop .sub q 1065353216) H) = false := m2
      obtain ⟨af, bf⟩ := fres_is m1'
      obtain ⟨ag, bg⟩ := fres_is m2'
      have E := Lib.hid (fun w => key_edge _ S w m2' hS)
      have hd2 : edgeB (fop .mul (fop .sub q 1065353216) H) S = v := hd.symm
      rw [hd2] at E
      clear hg Hv HE hd hd2 m1 m2 m1' m2' hS
      generalize fop .sub q 1065353216 = q1 at *
      generalize fop .mul q1 H = q2 at *
      go_wp2_with fail
      refine (E.out _).mono ?_
      rintro e w4 ⟨rfl, rfl⟩
      go_upto_region 20 with fail
      cases out
      · go_wp2_with (go_at_call 59; refine (num_Clean _ _).mono ?_; rintro e w' ⟨rfl, rfl⟩)
        go_ret
        exact ⟨rfl, B⟩
      · obtain ⟨a9, b9⟩ := fres_is (op := .sub) (x := 1065353216) (y := v) (sub_nn_left ⟨_, _, _, rd_one⟩ nv)
        go_wp2_with (go_at_call 59; refine (num_Clean _ _).mono ?_; rintro e w' ⟨rfl, rfl⟩)
        go_ret
        exact ⟨rfl, B⟩

set_option maxRecDepth 100000 in
set_option maxHeartbeats 4000000 in
theorem covered_pol (x y : Int) (X Y Wd H S : Nat) (pv : Value) (out : Bool) (dx dy : Nat) (W : World) (edx : fop .sub (floatOfInt .f32 x) X = dx) (edy : fop .sub (floatOfInt .f32 y) Y = dy) (nx : ∃ s m i, rd dx = .number s m i ∧ (m = 0 ∨ i + m.log2 ≤ 126)) (ny : ∃ s m i, rd dy = .number s m i ∧ (m = 0 ∨ i + m.log2 ≤ 126)) (hW : ∃ s m i, rd Wd = .number s m i) (hH : ∃ s m i, rd H = .number s m i) (hS : ∃ s m i, rd S = .number s m i) (ps : List (Int × Int)) (hs : SlP W pv ps) (hn : ps.length ≤ 1000) (hb : ∀ k, k < ps.length → -1048576 ≤ (ps.getD k default).1 ∧ (ps.getD k default).1 ≤ 1048576 ∧ -1048576 ≤ (ps.getD k default).2 ∧ (ps.getD k default).2 ≤ 1048576) (x1 : -2097152 ≤ x) (x2 : x ≤ 2097152) (y1 : -2097152 ≤ y) (y2 : y ≤ 2097152) : Calls Try.prog 28 #[.agg #[.int .i64 3, .float .f32 X, .float .f32 Y, .float .f32 Wd, .float .f32 H, .float .f32 S, pv, .bool out], .int .i64 x, .int .i64 y] W fun e w' => e = .returned (.float .f32 (covB 3 dx dy Wd H S (decide (crossTo ps x y ps.length % 2 = 1)) out)) ∧ Below W.heap.size W w' := by
  have dxn : isNaN dx = false := by obtain ⟨_, _, _, h, _⟩ := nx; rw [isNaN_iff, h]; rfl
  have dyn : isNaN dy = false := by obtain ⟨_, _, _, h, _⟩ := ny; rw [isNaN_iff, h]; rfl
  obtain ⟨ax, bx⟩ := fres_is (op := .sub) (x := floatOfInt .f32 x) (y := X) (by rw [edx]; exact dxn)
  obtain ⟨ay, by_⟩ := fres_is (op := .sub) (x := floatOfInt .f32 y) (y := Y) (by rw [edy]; exact dyn)
  rw [edx] at ax
  rw [edy] at ay
  clear edx edy
  obtain ⟨N, hN⟩ : ∃ N, crossTo ps x y ps.length = N := ⟨_, rfl⟩
  have C := Lib.hid (fun w (h : SlP w pv ps) => key_crossings pv ps x y w h hn hb x1 x2 y1 y2)
  obtain ⟨N0, N1⟩ := crossTo_range ps x y ps.length
  rw [hN] at C N0 N1 ⊢
  generalize hres : covB 3 dx dy Wd H S (decide (N % 2 = 1)) out = res
  have HR := Lib.hid hres
  clear hres
  have HS := Lib.hid hs
  clear hN hs hb dxn dyn nx ny hW hH hS x1 x2 y1 y2
  go_enter Try.func28, Try.ntmps28
  go_upto_region 1 with fail
  refine name_world ?_
  intro w0 hw0
  have x3 : Bx w0 W.heap.size 25 #[.int .i64 3, .float .f32 X, .float .f32 Y, .float .f32 Wd, .float .f32 H, .float .f32 S, pv, .bool out] := by rw [hw0]; exact Bx.new _ _ _
  have B : Below W.heap.size W w0 := by rw [hw0]; exact bnew (Below.refl _ W)
  clear hw0
  obtain ⟨q3, f3, l3⟩ := x3.all
  go_upto_region 2 with fail
  go_quiet (fail)
  go_upto_region 3 with fail
  refine name_world ?_
  intro w1 hw1
  replace x3 := bx_eqd2 hw1 x3
  replace B := b_eqd2 hw1 B
  clear hw1 q3 f3 l3 ax bx ay by_
  obtain ⟨q3, f3, l3⟩ := x3.all
  go_wp2_with fail
  refine (C.out _ (HS.out.keep B)).mono ?_
  rintro e w2 ⟨rfl, hb⟩
  replace x3 := x3.keep hb
  replace B := bcall B hb
  clear hb q3 f3 l3
  obtain ⟨q3, f3, l3⟩ := x3.all
  rcases (by omega : N % 2 = 0 ∨ N % 2 = 1) with g | g
  · obtain rfl : res = canon (if out then fop .sub 1065353216 0 else 0) := by rw [← HR.out, decide_eq_false (by omega)]; rfl
    have g2 : (N % 2 == 1) = false := by rw [g]; rfl
    have nv : isNaN 0 = false := by decide
    clear HR g
    go_upto_region 20 with fail
    cases out
    · go_wp2_with (go_at_call 59; refine (num_Clean _ _).mono ?_; rintro e w' ⟨rfl, rfl⟩)
      go_ret
      exact ⟨rfl, B⟩
    · obtain ⟨a9, b9⟩ := fres_is (op := .sub) (x := 1065353216) (y := 0) (sub_nn_left ⟨_, _, _, rd_one⟩ nv)
      go_wp2_with (go_at_call 59; refine (num_Clean _ _).mono ?_; rintro e w' ⟨rfl, rfl⟩)
      go_ret
      exact ⟨rfl, B⟩
  · obtain rfl : res = canon (if out then fop .sub 1065353216 1065353216 else 1065353216) := by rw [← HR.out, decide_eq_true g]; rfl
    have g2 : (N % 2 == 1) = true := by rw [g]; rfl
    have nv : isNaN 1065353216 = false := by decide
    clear HR g
    go_upto_region 20 with fail
    cases out
    · go_wp2_with (go_at_call 59; refine (num_Clean _ _).mono ?_; rintro e w' ⟨rfl, rfl⟩)
      go_ret
      exact ⟨rfl, B⟩
    · obtain ⟨a9, b9⟩ := fres_is (op := .sub) (x := 1065353216) (y := 1065353216) (sub_nn_left ⟨_, _, _, rd_one⟩ nv)
      go_wp2_with (go_at_call 59; refine (num_Clean _ _).mono ?_; rintro e w' ⟨rfl, rfl⟩)
      go_ret
      exact ⟨rfl, B⟩
end Go.Proofs.Ytfkiljhjiogdlaa
