/- The closures of Wheels, Mixer and Contrast, where they are neutral. (printed by gen_nuh.py) -/
import Derived.Test.YticekgnmiaidjaaGreatDoorNuE
namespace Go.Proofs.YticekgnmiaidjaaGreatDoor

section
open Go.RowKit Go.Lib

/-- A result that is no NaN is what the walk gets. -/
theorem fres_of {op : BinOp} {a b y : Nat} (h : fop op a b = y) (hn : isNaN y = false) (w : World) : fres op .f32 a b w = y := by
  have h1 := canon_fres op a b w
  rw [h] at h1
  unfold canon at h1
  split at h1
  · rw [← h1] at hn
    exact absurd hn (by decide)
  · exact h1
theorem fdr_of {op : BinOp} {a b y : Nat} (h : fop op a b = y) (hn : isNaN y = false) : fdr op .f32 a b = 0 := by
  unfold fdr
  cases hb : floatBits op .f32 a b with
  | some r => rfl
  | none =>
    exfalso
    unfold fop at h
    rw [hb] at h
    rw [← h] at hn
    exact absurd hn (by decide)
theorem run_of {op : BinOp} (hop : op = .add ∨ op = .sub ∨ op = .mul ∨ op = .quo) {a b y : Nat} (h : fop op a b = y) (hn : isNaN y = false) (t : TypeId) (w : World) : (binOp op t (.float .f32 a) (.float .f32 b)).run Tryz.prog w = .ok (.float .f32 y) w := by
  rw [run_farith w op hop t .f32 a b, fres_of h hn, fdr_of h hn]
  rfl
theorem nb_nn {x y : Nat} (h : isNum x = true) (hy : Nb x y) : isNaN y = false := by
  rcases hy with rfl | ⟨_, h2⟩
  · obtain ⟨s, m, i, hr⟩ := isNum_rd h
    rw [isNaN_iff, hr]; rfl
  · exact nn_zer0 h2
/-- A closure that gives r0, r1, r2 (behind Clean) of the first three singles. -/
structure Tri (W : World) (cf : FuncId) (cap : Array Value) (x0 x1 x2 r0 r1 r2 : Nat) : Prop where
  enter : ∀ (args : Array Value) (u : World), (callFunc cf args).run Tryz.prog u = .ok (.enter cf args) u
  g0 : ∀ u, Below W.heap.size W u → Calls Tryz.prog cf (#[.int .i64 0, .float .f32 x0] ++ cap) u fun e u' => (∃ r, e = .returned (.float .f32 r) ∧ canon r = r0) ∧ Below u.heap.size u u'
  g1 : ∀ u, Below W.heap.size W u → Calls Tryz.prog cf (#[.int .i64 1, .float .f32 x1] ++ cap) u fun e u' => (∃ r, e = .returned (.float .f32 r) ∧ canon r = r1) ∧ Below u.heap.size u u'
  g2 : ∀ u, Below W.heap.size W u → Calls Tryz.prog cf (#[.int .i64 2, .float .f32 x2] ++ cap) u fun e u' => (∃ r, e = .returned (.float .f32 r) ∧ canon r = r2) ∧ Below u.heap.size u u'
def outP (r0 r1 r2 r3 k : Nat) : Array Value := #[.float .f32 (if 0 < k then r0 else 0), .float .f32 (if 1 < k then r1 else 0), .float .f32 (if 2 < k then r2 else 0), .float .f32 (if 3 < k then r3 else 0)]
theorem run_index_px (F : Nat → Nat) (k : Nat) (hk : k < 4) (w : World) : (Instr.index 25 (.agg #[.float .f32 (F 0), .float .f32 (F 1), .float .f32 (F 2), .float .f32 (F 3)]) (.int .i64 (k : Int))).run Tryz.prog w = .ok (.float .f32 (F k)) w := by
  have h0 : (Instr.index 25 (.agg #[.float .f32 (F 0), .float .f32 (F 1), .float .f32 (F 2), .float .f32 (F 3)]) (.int .i64 0)).run Tryz.prog w = .ok (.float .f32 (F 0)) w := by kernel_rfl
  have h1 : (Instr.index 25 (.agg #[.float .f32 (F 0), .float .f32 (F 1), .float .f32 (F 2), .float .f32 (F 3)]) (.int .i64 1)).run Tryz.prog w = .ok (.float .f32 (F 1)) w := by kernel_rfl
  have h2 : (Instr.index 25 (.agg #[.float .f32 (F 0), .float .f32 (F 1), .float .f32 (F 2), .float .f32 (F 3)]) (.int .i64 2)).run Tryz.prog w = .ok (.float .f32 (F 2)) w := by kernel_rfl
  have h3 : (Instr.index 25 (.agg #[.float .f32 (F 0), .float .f32 (F 1), .float .f32 (F 2), .float .f32 (F 3)]) (.int .i64 3)).run Tryz.prog w = .ok (.float .f32 (F 3)) w := by kernel_rfl
  match k, hk with
  | 0, _ => exact h0
  | 1, _ => exact h1
  | 2, _ => exact h2
  | 3, _ => exact h3
set_option maxRecDepth 100000 in
set_option maxHeartbeats 4000000 in
theorem grade_three (cf : FuncId) (cap : Array Value) (a b c d r0 r1 r2 : Nat) (W : World) (hT : Tri W cf cap a b c r0 r1 r2) :
    Calls Tryz.prog 94 #[.agg #[.float .f32 a, .float .f32 b, .float .f32 c, .float .f32 d], .func (.func cf) #[] cap] W fun e w' => e = .returned (.agg #[.float .f32 r0, .float .f32 r1, .float .f32 r2, .float .f32 (canon d)]) ∧ Below W.heap.size W w' := by
  have hcf := hT.enter
  have i0 : ∀ w, (Instr.index 25 (.agg #[.float .f32 a, .float .f32 b, .float .f32 c, .float .f32 d]) (.int .i64 0)).run Tryz.prog w = .ok (.float .f32 a) w := fun w => run_index_px (fun n => match n with | 0 => a | 1 => b | 2 => c | _ => d) 0 (by omega) w
  have i1 : ∀ w, (Instr.index 25 (.agg #[.float .f32 a, .float .f32 b, .float .f32 c, .float .f32 d]) (.int .i64 1)).run Tryz.prog w = .ok (.float .f32 b) w := fun w => run_index_px (fun n => match n with | 0 => a | 1 => b | 2 => c | _ => d) 1 (by omega) w
  have i2 : ∀ w, (Instr.index 25 (.agg #[.float .f32 a, .float .f32 b, .float .f32 c, .float .f32 d]) (.int .i64 2)).run Tryz.prog w = .ok (.float .f32 c) w := fun w => run_index_px (fun n => match n with | 0 => a | 1 => b | 2 => c | _ => d) 2 (by omega) w
  have i3 : ∀ w, (Instr.index 25 (.agg #[.float .f32 a, .float .f32 b, .float .f32 c, .float .f32 d]) (.int .i64 3)).run Tryz.prog w = .ok (.float .f32 d) w := fun w => run_index_px (fun n => match n with | 0 => a | 1 => b | 2 => c | _ => d) 3 (by omega) w
  go_enter Tryz.func94, Tryz.ntmps94
  go_upto_region 3 with fail
  refine name_world ?_
  intro wb hwb
  have x4 : Hid (Bx wb (W.heap.size + 1) 25 #[.float .f32 0, .float .f32 0, .float .f32 0, .float .f32 0]) := Lib.hid (by rw [hwb]; exact Bx.alloc (Bx.at _ (by simp)) _)
  have x5 : Hid (Bx wb (W.heap.size + 1 + 1) 25 (outP r0 r1 r2 (canon d) 0)) := Lib.hid (by rw [hwb]; exact Bx.at _ (by simp))
  have B : Hid (Below W.heap.size W wb) := Lib.hid (by rw [hwb]; exact bnew (bnew (bnew (Below.refl _ W))))
  obtain ⟨p4, hp4⟩ : ∃ p, W.heap.size + 1 = p := ⟨_, rfl⟩
  have h4 : W.heap.size ≤ p4 := by omega
  rw [hp4] at x4 x5 ⊢
  clear hwb hp4
  obtain ⟨p5, hp5⟩ : ∃ p, p4 + 1 = p := ⟨_, rfl⟩
  have h5 : p4 < p5 := by omega
  rw [hp5] at x5 ⊢
  clear hp5
  go_loopw [9] (fun i wr => ∃ k : Nat, k ≤ 4 ∧ i = .int .i64 (k : Int) ∧ Hid (Bx wr p4 25 #[.float .f32 0, .float .f32 0, .float .f32 0, .float .f32 0] ∧ Bx wr p5 25 (outP r0 r1 r2 (canon d) k) ∧ Below W.heap.size W wr)) (fun i _ => 4 - (RowKit.intOf i).toNat)
  case atStart => exact ⟨0, by omega, rfl, Lib.hid ⟨x4.out, x5.out, B.out⟩⟩
  case round =>
    clear x4 x5 B
    obtain ⟨k, hk, rfl, HI⟩ := hrel
    rcases (by omega : k = 0 ∨ k = 1 ∨ k = 2 ∨ k = 3 ∨ k = 4) with rfl | rfl | rfl | rfl | rfl
    · rw [show ((0 : Nat) : Int) = 0 from rfl]
      go_wp2_with fail
      refine (hT.g0 _ HI.out.2.2).mono ?_
      rintro e w2 ⟨⟨r, rfl, hr⟩, hb2⟩
      have HJ : Hid (Bx w2 p4 25 #[.float .f32 0, .float .f32 0, .float .f32 0, .float .f32 0] ∧ Bx w2 p5 25 (outP r0 r1 r2 (canon d) 0) ∧ Below W.heap.size W w2) := Lib.hid ⟨HI.out.1.keep hb2, HI.out.2.1.keep hb2, bcall HI.out.2.2 hb2⟩
      have HR := Lib.hid hr
      have q5 := HJ.out.2.1.all
      obtain ⟨q5, f5, l5⟩ := q5
      simp only [outP] at q5
      clear hb2 hr
      go_wp2_with (go_at_call 65; refine (num_Clean _ _).mono ?_; rintro e w' ⟨rfl, rfl⟩)
      go_roundw
      case rel =>
        have hs := HJ.out.2.1.set 0 (.float .f32 (canon r))
        rw [HR.out] at hs
        exact ⟨1, by omega, by rfl, Lib.hid ⟨by rw [HR.out]; exact (Only.bx ((Only.refl p5 _).set _ _) (by omega) HJ.out.1), by rw [HR.out]; exact hs, by rw [HR.out]; exact bput (by omega) HJ.out.2.2⟩⟩
      case measure => simp [RowKit.intOf]
    · rw [show ((1 : Nat) : Int) = 1 from rfl]
      go_wp2_with fail
      refine (hT.g1 _ HI.out.2.2).mono ?_
      rintro e w2 ⟨⟨r, rfl, hr⟩, hb2⟩
      have HJ : Hid (Bx w2 p4 25 #[.float .f32 0, .float .f32 0, .float .f32 0, .float .f32 0] ∧ Bx w2 p5 25 (outP r0 r1 r2 (canon d) 1) ∧ Below W.heap.size W w2) := Lib.hid ⟨HI.out.1.keep hb2, HI.out.2.1.keep hb2, bcall HI.out.2.2 hb2⟩
      have HR := Lib.hid hr
      have q5 := HJ.out.2.1.all
      obtain ⟨q5, f5, l5⟩ := q5
      simp only [outP] at q5
      clear hb2 hr
      go_wp2_with (go_at_call 65; refine (num_Clean _ _).mono ?_; rintro e w' ⟨rfl, rfl⟩)
      go_roundw
      case rel =>
        have hs := HJ.out.2.1.set 1 (.float .f32 (canon r))
        rw [HR.out] at hs
        exact ⟨2, by omega, by rfl, Lib.hid ⟨by rw [HR.out]; exact (Only.bx ((Only.refl p5 _).set _ _) (by omega) HJ.out.1), by rw [HR.out]; exact hs, by rw [HR.out]; exact bput (by omega) HJ.out.2.2⟩⟩
      case measure => simp [RowKit.intOf]
    · rw [show ((2 : Nat) : Int) = 2 from rfl]
      go_wp2_with fail
      refine (hT.g2 _ HI.out.2.2).mono ?_
      rintro e w2 ⟨⟨r, rfl, hr⟩, hb2⟩
      have HJ : Hid (Bx w2 p4 25 #[.float .f32 0, .float .f32 0, .float .f32 0, .float .f32 0] ∧ Bx w2 p5 25 (outP r0 r1 r2 (canon d) 2) ∧ Below W.heap.size W w2) := Lib.hid ⟨HI.out.1.keep hb2, HI.out.2.1.keep hb2, bcall HI.out.2.2 hb2⟩
      have HR := Lib.hid hr
      have q5 := HJ.out.2.1.all
      obtain ⟨q5, f5, l5⟩ := q5
      simp only [outP] at q5
      clear hb2 hr
      go_wp2_with (go_at_call 65; refine (num_Clean _ _).mono ?_; rintro e w' ⟨rfl, rfl⟩)
      go_roundw
      case rel =>
        have hs := HJ.out.2.1.set 2 (.float .f32 (canon r))
        rw [HR.out] at hs
        exact ⟨3, by omega, by rfl, Lib.hid ⟨by rw [HR.out]; exact (Only.bx ((Only.refl p5 _).set _ _) (by omega) HJ.out.1), by rw [HR.out]; exact hs, by rw [HR.out]; exact bput (by omega) HJ.out.2.2⟩⟩
      case measure => simp [RowKit.intOf]
    · rw [show ((3 : Nat) : Int) = 3 from rfl]
      have q5 := HI.out.2.1.all
      obtain ⟨q5, f5, l5⟩ := q5
      simp only [outP] at q5
      go_wp2_with (go_at_call 65; refine (num_Clean _ _).mono ?_; rintro e w' ⟨rfl, rfl⟩)
      go_roundw
      case rel =>
        have hs := HI.out.2.1.set 3 (.float .f32 (canon d))
        exact ⟨4, by omega, by rfl, Lib.hid ⟨Only.bx ((Only.refl p5 _).set _ _) (by omega) HI.out.1, hs, bput (by omega) HI.out.2.2⟩⟩
      case measure => simp [RowKit.intOf]
    · rw [show ((4 : Nat) : Int) = 4 from rfl]
      have X5 : Bx wr p5 25 #[.float .f32 r0, .float .f32 r1, .float .f32 r2, .float .f32 (canon d)] := HI.out.2.1
      obtain ⟨q5, f5, l5⟩ := X5.all
      obtain ⟨q4, f4, l4⟩ := HI.out.1.all
      have y0 := q5 0
      have y1 := q5 1
      have y2 := q5 2
      have y3 := q5 3
      have z0 := q4 0
      have z1 := q4 1
      have z2 := q4 2
      have z3 := q4 3
      simp only [List.getElem?_toArray, List.getElem?_cons_zero, List.getElem?_cons_succ] at y0 y1 y2 y3 z0 z1 z2 z3
      have HB := Lib.hid HI.out.2.2
      clear q5 q4 HI
      go_wp2_with fail
      refine bodyPost_ret (v := .agg #[.float .f32 r0, .float .f32 r1, .float .f32 r2, .float .f32 (canon d)]) (by simp [results, Tryz.results94, go_sem, z0, z1, z2, z3]) rfl ⟨rfl, ?_⟩
      repeat (refine bput (by omega) ?_)
      exact HB.out
end

section
open Go.RowKit Go.Lib

theorem one_num : isNum 1065353216 = true := by decide
set_option maxRecDepth 100000 in
set_option maxHeartbeats 4000000 in
theorem wheels_0 (p2 v l0 l1 l2 : Nat) (u : World) (hx : Bx u p2 34 #[.float .f32 l0, .float .f32 l1, .float .f32 l2, .float .f32 1065353216, .float .f32 1065353216, .float .f32 1065353216, .float .f32 1065353216, .float .f32 1065353216, .float .f32 1065353216]) (hv : v < 4294967296) (hn : isNum v = true) (hl : zer0 l0 = true) :
    Calls Tryz.prog 122 #[.int .i64 0, .float .f32 v, .pointer (some ⟨p2, 0, none⟩)] u fun e u' => (∃ r, e = .returned (.float .f32 r) ∧ canon r = wheV v 1065353216 l0) ∧ Below u.heap.size u u' := by
  have n1 : Nb 1065353216 (fop .sub 1065353216 l0) := (nb_add (by decide) one_num (.inl rfl) hl).2.2
  have e1 : fop .sub 1065353216 l0 = 1065353216 := by
    rcases n1 with h | ⟨h, _⟩
    · exact h
    · exact absurd h (by decide)
  obtain ⟨y2, h2⟩ : ∃ y, fop .mul v 1065353216 = y := ⟨_, rfl⟩
  have n2 : Nb v y2 := by rw [← h2]; exact nb_mul hv hn (.inl rfl)
  obtain ⟨y3, h3⟩ : ∃ y, fop .add y2 l0 = y := ⟨_, rfl⟩
  have n3 : Nb v y3 := by rw [← h3]; exact (nb_add hv hn n2 hl).1
  have q1 := run_of (.inr (.inl rfl)) e1 (by decide)
  have q2 := run_of (.inr (.inr (.inl rfl))) h2 (nb_nn hn n2)
  have q3 := run_of (.inl rfl) h3 (nb_nn hn n3)
  have HV : Hid (canon y3 = wheV v 1065353216 l0) := Lib.hid (by unfold wheV; rw [e1, h2, h3]; exact nb_num hn n3)
  obtain ⟨z, f, lt⟩ := hx.all
  have z0 := z 0
  have z1 := z 1
  have z2 := z 2
  have z3 := z 3
  have z4 := z 4
  have z5 := z 5
  have z6 := z 6
  have z7 := z 7
  have z8 := z 8
  simp only [List.getElem?_toArray, List.getElem?_cons_zero, List.getElem?_cons_succ] at z0 z1 z2 z3 z4 z5 z6 z7 z8
  have ho : (FloatKind.f32.format.order 1065353216 1065353216 == some .eq) = true := by decide
  clear z f lt n1 n2 n3 e1 h2 h3 hl hv hn hx
  cases hgt : (FloatKind.f32.format.order y3 0 == some .gt)
  all_goals
    go_enter Tryz.func122, Tryz.ntmps122
    go_wp2_with fail
    go_quiet (fail)
    go_wp2_with fail
    go_ret
    refine ⟨⟨y3, rfl, HV.out⟩, ?_⟩
    repeat (refine below_drewN ?_ _)
    exact Below.refl _ _
set_option maxRecDepth 100000 in
set_option maxHeartbeats 4000000 in
theorem wheels_1 (p2 v l0 l1 l2 : Nat) (u : World) (hx : Bx u p2 34 #[.float .f32 l0, .float .f32 l1, .float .f32 l2, .float .f32 1065353216, .float .f32 1065353216, .float .f32 1065353216, .float .f32 1065353216, .float .f32 1065353216, .float .f32 1065353216]) (hv : v < 4294967296) (hn : isNum v = true) (hl : zer0 l1 = true) :
    Calls Tryz.prog 122 #[.int .i64 1, .float .f32 v, .pointer (some ⟨p2, 0, none⟩)] u fun e u' => (∃ r, e = .returned (.float .f32 r) ∧ canon r = wheV v 1065353216 l1) ∧ Below u.heap.size u u' := by
  have n1 : Nb 1065353216 (fop .sub 1065353216 l1) := (nb_add (by decide) one_num (.inl rfl) hl).2.2
  have e1 : fop .sub 1065353216 l1 = 1065353216 := by
    rcases n1 with h | ⟨h, _⟩
    · exact h
    · exact absurd h (by decide)
  obtain ⟨y2, h2⟩ : ∃ y, fop .mul v 1065353216 = y := ⟨_, rfl⟩
  have n2 : Nb v y2 := by rw [← h2]; exact nb_mul hv hn (.inl rfl)
  obtain ⟨y3, h3⟩ : ∃ y, fop .add y2 l1 = y := ⟨_, rfl⟩
  have n3 : Nb v y3 := by rw [← h3]; exact (nb_add hv hn n2 hl).1
  have q1 := run_of (.inr (.inl rfl)) e1 (by decide)
  have q2 := run_of (.inr (.inr (.inl rfl))) h2 (nb_nn hn n2)
  have q3 := run_of (.inl rfl) h3 (nb_nn hn n3)
  have HV : Hid (canon y3 = wheV v 1065353216 l1) := Lib.hid (by unfold wheV; rw [e1, h2, h3]; exact nb_num hn n3)
  obtain ⟨z, f, lt⟩ := hx.all
  have z0 := z 0
  have z1 := z 1
  have z2 := z 2
  have z3 := z 3
  have z4 := z 4
  have z5 := z 5
  have z6 := z 6
  have z7 := z 7
  have z8 := z 8
  simp only [List.getElem?_toArray, List.getElem?_cons_zero, List.getElem?_cons_succ] at z0 z1 z2 z3 z4 z5 z6 z7 z8
  have ho : (FloatKind.f32.format.order 1065353216 1065353216 == some .eq) = true := by decide
  clear z f lt n1 n2 n3 e1 h2 h3 hl hv hn hx
  cases hgt : (FloatKind.f32.format.order y3 0 == some .gt)
  all_goals
    go_enter Tryz.func122, Tryz.ntmps122
    go_wp2_with fail
    go_quiet (fail)
    go_wp2_with fail
    go_ret
    refine ⟨⟨y3, rfl, HV.out⟩, ?_⟩
    repeat (refine below_drewN ?_ _)
    exact Below.refl _ _
set_option maxRecDepth 100000 in
set_option maxHeartbeats 4000000 in
theorem wheels_2 (p2 v l0 l1 l2 : Nat) (u : World) (hx : Bx u p2 34 #[.float .f32 l0, .float .f32 l1, .float .f32 l2, .float .f32 1065353216, .float .f32 1065353216, .float .f32 1065353216, .float .f32 1065353216, .float .f32 1065353216, .float .f32 1065353216]) (hv : v < 4294967296) (hn : isNum v = true) (hl : zer0 l2 = true) :
    Calls Tryz.prog 122 #[.int .i64 2, .float .f32 v, .pointer (some ⟨p2, 0, none⟩)] u fun e u' => (∃ r, e = .returned (.float .f32 r) ∧ canon r = wheV v 1065353216 l2) ∧ Below u.heap.size u u' := by
  have n1 : Nb 1065353216 (fop .sub 1065353216 l2) := (nb_add (by decide) one_num (.inl rfl) hl).2.2
  have e1 : fop .sub 1065353216 l2 = 1065353216 := by
    rcases n1 with h | ⟨h, _⟩
    · exact h
    · exact absurd h (by decide)
  obtain ⟨y2, h2⟩ : ∃ y, fop .mul v 1065353216 = y := ⟨_, rfl⟩
  have n2 : Nb v y2 := by rw [← h2]; exact nb_mul hv hn (.inl rfl)
  obtain ⟨y3, h3⟩ : ∃ y, fop .add y2 l2 = y := ⟨_, rfl⟩
  have n3 : Nb v y3 := by rw [← h3]; exact (nb_add hv hn n2 hl).1
  have q1 := run_of (.inr (.inl rfl)) e1 (by decide)
  have q2 := run_of (.inr (.inr (.inl rfl))) h2 (nb_nn hn n2)
  have q3 := run_of (.inl rfl) h3 (nb_nn hn n3)
  have HV : Hid (canon y3 = wheV v 1065353216 l2) := Lib.hid (by unfold wheV; rw [e1, h2, h3]; exact nb_num hn n3)
  obtain ⟨z, f, lt⟩ := hx.all
  have z0 := z 0
  have z1 := z 1
  have z2 := z 2
  have z3 := z 3
  have z4 := z 4
  have z5 := z 5
  have z6 := z 6
  have z7 := z 7
  have z8 := z 8
  simp only [List.getElem?_toArray, List.getElem?_cons_zero, List.getElem?_cons_succ] at z0 z1 z2 z3 z4 z5 z6 z7 z8
  have ho : (FloatKind.f32.format.order 1065353216 1065353216 == some .eq) = true := by decide
  clear z f lt n1 n2 n3 e1 h2 h3 hl hv hn hx
  cases hgt : (FloatKind.f32.format.order y3 0 == some .gt)
  all_goals
    go_enter Tryz.func122, Tryz.ntmps122
    go_wp2_with fail
    go_quiet (fail)
    go_wp2_with fail
    go_ret
    refine ⟨⟨y3, rfl, HV.out⟩, ?_⟩
    repeat (refine below_drewN ?_ _)
    exact Below.refl _ _
set_option maxRecDepth 100000 in
set_option maxHeartbeats 8000000 in
theorem mixer_0 (pm pp p0 p1 p2 p3 a1 a2 a3 b0 b2 b3 c0 c1 c3 : Nat) (u : World) (hx : Bx u pm 43 #[.float .f32 1065353216, .float .f32 a1, .float .f32 a2, .float .f32 a3, .float .f32 b0, .float .f32 1065353216, .float .f32 b2, .float .f32 b3, .float .f32 c0, .float .f32 c1, .float .f32 1065353216, .float .f32 c3]) (hy : Bx u pp 25 #[.float .f32 p0, .float .f32 p1, .float .f32 p2, .float .f32 p3]) (hv : p0 < 4294967296) (g0 : isNum p0 = true) (g1 : isNum p1 = true) (g2 : isNum p2 = true) (za1 : zer0 a1 = true) (za2 : zer0 a2 = true) (za3 : zer0 a3 = true) :
    Calls Tryz.prog 127 #[.int .i64 0, .float .f32 p0, .pointer (some ⟨pm, 0, none⟩), .pointer (some ⟨pp, 0, none⟩)] u fun e u' => (∃ r, e = .returned (.float .f32 r) ∧ canon r = mixV p0 p1 p2 1065353216 a1 a2 a3) ∧ Below u.heap.size u u' := by
  obtain ⟨m0, hm0⟩ : ∃ y, fop .mul p0 1065353216 = y := ⟨_, rfl⟩
  have nm0 : Nb p0 m0 := by rw [← hm0]; exact nb_mul hv g0 (.inl rfl)
  have k0 := nb_nn g0 nm0
  obtain ⟨m1, hm1⟩ : ∃ y, fop .mul p1 a1 = y := ⟨_, rfl⟩
  have nm1 : zer0 m1 = true := by rw [← hm1]; exact mul_zer g1 za1
  have k1 := nn_zer0 nm1
  obtain ⟨m2, hm2⟩ : ∃ y, fop .mul p2 a2 = y := ⟨_, rfl⟩
  have nm2 : zer0 m2 = true := by rw [← hm2]; exact mul_zer g2 za2
  have k2 := nn_zer0 nm2
  obtain ⟨s1, hs1⟩ : ∃ y, fop .add m0 m1 = y := ⟨_, rfl⟩
  obtain ⟨s2, hs2⟩ : ∃ y, fop .add s1 m2 = y := ⟨_, rfl⟩
  obtain ⟨s3, hs3⟩ : ∃ y, fop .add s2 a3 = y := ⟨_, rfl⟩
  have ns1 : Nb p0 s1 := by rw [← hs1]; exact (nb_add hv g0 nm0 nm1).1
  have ns2 : Nb p0 s2 := by rw [← hs2]; exact (nb_add hv g0 ns1 nm2).1
  have ns3 : Nb p0 s3 := by rw [← hs3]; exact (nb_add hv g0 ns2 za3).1
  have q0 := run_of (.inr (.inr (.inl rfl))) hm0 k0
  have q1 := run_of (.inr (.inr (.inl rfl))) hm1 k1
  have q2 := run_of (.inr (.inr (.inl rfl))) hm2 k2
  have q4 := run_of (.inl rfl) hs1 (nb_nn g0 ns1)
  have q5 := run_of (.inl rfl) hs2 (nb_nn g0 ns2)
  have q6 := run_of (.inl rfl) hs3 (nb_nn g0 ns3)
  have HV : Hid (canon s3 = mixV p0 p1 p2 1065353216 a1 a2 a3) := Lib.hid (by unfold mixV; rw [hm0, hm1, hm2, hs1, hs2, hs3]; exact nb_num g0 ns3)
  obtain ⟨zx, fx, lx⟩ := hx.all
  obtain ⟨zy, fy, ly⟩ := hy.all
  have x0 := zx 0
  have x1 := zx 1
  have x2 := zx 2
  have x3 := zx 3
  have w0 := zy 0
  have w1 := zy 1
  have w2 := zy 2
  simp only [List.getElem?_toArray, List.getElem?_cons_zero, List.getElem?_cons_succ] at x0 x1 x2 x3 w0 w1 w2
  clear zx fx lx zy fy ly hx hy hv g0 g1 g2 za1 za2 za3 hm0 hm1 hm2 nm0 nm1 nm2 k0 k1 k2 hs1 hs2 hs3 ns1 ns2 ns3
  go_enter Tryz.func127, Tryz.ntmps127
  go_wp2_with fail
  go_quiet (fail)
  go_wp2_with fail
  go_ret
  refine ⟨⟨s3, rfl, HV.out⟩, ?_⟩
  repeat (refine below_drewN ?_ _)
  exact Below.refl _ _
set_option maxRecDepth 100000 in
set_option maxHeartbeats 8000000 in
theorem mixer_1 (pm pp p0 p1 p2 p3 a1 a2 a3 b0 b2 b3 c0 c1 c3 : Nat) (u : World) (hx : Bx u pm 43 #[.float .f32 1065353216, .float .f32 a1, .float .f32 a2, .float .f32 a3, .float .f32 b0, .float .f32 1065353216, .float .f32 b2, .float .f32 b3, .float .f32 c0, .float .f32 c1, .float .f32 1065353216, .float .f32 c3]) (hy : Bx u pp 25 #[.float .f32 p0, .float .f32 p1, .float .f32 p2, .float .f32 p3]) (hv : p1 < 4294967296) (g0 : isNum p0 = true) (g1 : isNum p1 = true) (g2 : isNum p2 = true) (zb0 : zer0 b0 = true) (zb2 : zer0 b2 = true) (zb3 : zer0 b3 = true) :
    Calls Tryz.prog 127 #[.int .i64 1, .float .f32 p1, .pointer (some ⟨pm, 0, none⟩), .pointer (some ⟨pp, 0, none⟩)] u fun e u' => (∃ r, e = .returned (.float .f32 r) ∧ canon r = mixV p0 p1 p2 b0 1065353216 b2 b3) ∧ Below u.heap.size u u' := by
  obtain ⟨m0, hm0⟩ : ∃ y, fop .mul p0 b0 = y := ⟨_, rfl⟩
  have nm0 : zer0 m0 = true := by rw [← hm0]; exact mul_zer g0 zb0
  have k0 := nn_zer0 nm0
  obtain ⟨m1, hm1⟩ : ∃ y, fop .mul p1 1065353216 = y := ⟨_, rfl⟩
  have nm1 : Nb p1 m1 := by rw [← hm1]; exact nb_mul hv g1 (.inl rfl)
  have k1 := nb_nn g1 nm1
  obtain ⟨m2, hm2⟩ : ∃ y, fop .mul p2 b2 = y := ⟨_, rfl⟩
  have nm2 : zer0 m2 = true := by rw [← hm2]; exact mul_zer g2 zb2
  have k2 := nn_zer0 nm2
  obtain ⟨s1, hs1⟩ : ∃ y, fop .add m0 m1 = y := ⟨_, rfl⟩
  obtain ⟨s2, hs2⟩ : ∃ y, fop .add s1 m2 = y := ⟨_, rfl⟩
  obtain ⟨s3, hs3⟩ : ∃ y, fop .add s2 b3 = y := ⟨_, rfl⟩
  have ns1 : Nb p1 s1 := by rw [← hs1]; exact (nb_add hv g1 nm1 nm0).2.1
  have ns2 : Nb p1 s2 := by rw [← hs2]; exact (nb_add hv g1 ns1 nm2).1
  have ns3 : Nb p1 s3 := by rw [← hs3]; exact (nb_add hv g1 ns2 zb3).1
  have q0 := run_of (.inr (.inr (.inl rfl))) hm0 k0
  have q1 := run_of (.inr (.inr (.inl rfl))) hm1 k1
  have q2 := run_of (.inr (.inr (.inl rfl))) hm2 k2
  have q4 := run_of (.inl rfl) hs1 (nb_nn g1 ns1)
  have q5 := run_of (.inl rfl) hs2 (nb_nn g1 ns2)
  have q6 := run_of (.inl rfl) hs3 (nb_nn g1 ns3)
  have HV : Hid (canon s3 = mixV p0 p1 p2 b0 1065353216 b2 b3) := Lib.hid (by unfold mixV; rw [hm0, hm1, hm2, hs1, hs2, hs3]; exact nb_num g1 ns3)
  obtain ⟨zx, fx, lx⟩ := hx.all
  obtain ⟨zy, fy, ly⟩ := hy.all
  have x0 := zx 4
  have x1 := zx 5
  have x2 := zx 6
  have x3 := zx 7
  have w0 := zy 0
  have w1 := zy 1
  have w2 := zy 2
  simp only [List.getElem?_toArray, List.getElem?_cons_zero, List.getElem?_cons_succ] at x0 x1 x2 x3 w0 w1 w2
  clear zx fx lx zy fy ly hx hy hv g0 g1 g2 zb0 zb2 zb3 hm0 hm1 hm2 nm0 nm1 nm2 k0 k1 k2 hs1 hs2 hs3 ns1 ns2 ns3
  go_enter Tryz.func127, Tryz.ntmps127
  go_wp2_with fail
  go_quiet (fail)
  go_wp2_with fail
  go_ret
  refine ⟨⟨s3, rfl, HV.out⟩, ?_⟩
  repeat (refine below_drewN ?_ _)
  exact Below.refl _ _
set_option maxRecDepth 100000 in
set_option maxHeartbeats 8000000 in
theorem mixer_2 (pm pp p0 p1 p2 p3 a1 a2 a3 b0 b2 b3 c0 c1 c3 : Nat) (u : World) (hx : Bx u pm 43 #[.float .f32 1065353216, .float .f32 a1, .float .f32 a2, .float .f32 a3, .float .f32 b0, .float .f32 1065353216, .float .f32 b2, .float .f32 b3, .float .f32 c0, .float .f32 c1, .float .f32 1065353216, .float .f32 c3]) (hy : Bx u pp 25 #[.float .f32 p0, .float .f32 p1, .float .f32 p2, .float .f32 p3]) (hv : p2 < 4294967296) (g0 : isNum p0 = true) (g1 : isNum p1 = true) (g2 : isNum p2 = true) (zc0 : zer0 c0 = true) (zc1 : zer0 c1 = true) (zc3 : zer0 c3 = true) :
    Calls Tryz.prog 127 #[.int .i64 2, .float .f32 p2, .pointer (some ⟨pm, 0, none⟩), .pointer (some ⟨pp, 0, none⟩)] u fun e u' => (∃ r, e = .returned (.float .f32 r) ∧ canon r = mixV p0 p1 p2 c0 c1 1065353216 c3) ∧ Below u.heap.size u u' := by
  obtain ⟨m0, hm0⟩ : ∃ y, fop .mul p0 c0 = y := ⟨_, rfl⟩
  have nm0 : zer0 m0 = true := by rw [← hm0]; exact mul_zer g0 zc0
  have k0 := nn_zer0 nm0
  obtain ⟨m1, hm1⟩ : ∃ y, fop .mul p1 c1 = y := ⟨_, rfl⟩
  have nm1 : zer0 m1 = true := by rw [← hm1]; exact mul_zer g1 zc1
  have k1 := nn_zer0 nm1
  obtain ⟨m2, hm2⟩ : ∃ y, fop .mul p2 1065353216 = y := ⟨_, rfl⟩
  have nm2 : Nb p2 m2 := by rw [← hm2]; exact nb_mul hv g2 (.inl rfl)
  have k2 := nb_nn g2 nm2
  obtain ⟨s1, hs1⟩ : ∃ y, fop .add m0 m1 = y := ⟨_, rfl⟩
  obtain ⟨s2, hs2⟩ : ∃ y, fop .add s1 m2 = y := ⟨_, rfl⟩
  obtain ⟨s3, hs3⟩ : ∃ y, fop .add s2 c3 = y := ⟨_, rfl⟩
  have ns1 : zer0 s1 = true := by rw [← hs1]; exact zer_add nm0 nm1
  have ns2 : Nb p2 s2 := by rw [← hs2]; exact (nb_add hv g2 nm2 ns1).2.1
  have ns3 : Nb p2 s3 := by rw [← hs3]; exact (nb_add hv g2 ns2 zc3).1
  have q0 := run_of (.inr (.inr (.inl rfl))) hm0 k0
  have q1 := run_of (.inr (.inr (.inl rfl))) hm1 k1
  have q2 := run_of (.inr (.inr (.inl rfl))) hm2 k2
  have q4 := run_of (.inl rfl) hs1 (nn_zer0 ns1)
  have q5 := run_of (.inl rfl) hs2 (nb_nn g2 ns2)
  have q6 := run_of (.inl rfl) hs3 (nb_nn g2 ns3)
  have HV : Hid (canon s3 = mixV p0 p1 p2 c0 c1 1065353216 c3) := Lib.hid (by unfold mixV; rw [hm0, hm1, hm2, hs1, hs2, hs3]; exact nb_num g2 ns3)
  obtain ⟨zx, fx, lx⟩ := hx.all
  obtain ⟨zy, fy, ly⟩ := hy.all
  have x0 := zx 8
  have x1 := zx 9
  have x2 := zx 10
  have x3 := zx 11
  have w0 := zy 0
  have w1 := zy 1
  have w2 := zy 2
  simp only [List.getElem?_toArray, List.getElem?_cons_zero, List.getElem?_cons_succ] at x0 x1 x2 x3 w0 w1 w2
  clear zx fx lx zy fy ly hx hy hv g0 g1 g2 zc0 zc1 zc3 hm0 hm1 hm2 nm0 nm1 nm2 k0 k1 k2 hs1 hs2 hs3 ns1 ns2 ns3
  go_enter Tryz.func127, Tryz.ntmps127
  go_wp2_with fail
  go_quiet (fail)
  go_wp2_with fail
  go_ret
  refine ⟨⟨s3, rfl, HV.out⟩, ?_⟩
  repeat (refine below_drewN ?_ _)
  exact Below.refl _ _
set_option maxRecDepth 100000 in
set_option maxHeartbeats 4000000 in
theorem contrast_n (v piv : Nat) (u : World) (hv : v < 4294967296) (hn : isNum v = true) (hp : zer0 piv = true) :
    Calls Tryz.prog 96 #[.float .f32 v, .float .f32 piv, .float .f32 1065353216] u fun e u' => (∃ r, e = .returned (.float .f32 r) ∧ canon r = conV v piv 1065353216) ∧ Below u.heap.size u u' := by
  obtain ⟨y1, h1⟩ : ∃ y, fop .sub v piv = y := ⟨_, rfl⟩
  have n1 : Nb v y1 := by rw [← h1]; exact (nb_add hv hn (.inl rfl) hp).2.2
  obtain ⟨y2, h2⟩ : ∃ y, fop .mul y1 1065353216 = y := ⟨_, rfl⟩
  have n2 : Nb v y2 := by rw [← h2]; exact nb_mul hv hn n1
  obtain ⟨y3, h3⟩ : ∃ y, fop .add y2 piv = y := ⟨_, rfl⟩
  have n3 : Nb v y3 := by rw [← h3]; exact (nb_add hv hn n2 hp).1
  have q1 := run_of (.inr (.inl rfl)) h1 (nb_nn hn n1)
  have q2 := run_of (.inr (.inr (.inl rfl))) h2 (nb_nn hn n2)
  have q3 := run_of (.inl rfl) h3 (nb_nn hn n3)
  have HV : Hid (canon (canon y3) = conV v piv 1065353216) := Lib.hid (by unfold conV; rw [h1, h2, h3, canon_idem]; exact nb_num hn n3)
  clear n1 n2 n3 h1 h2 h3 hp hv hn
  go_enter Tryz.func96, Tryz.ntmps96
  go_wp2_with (go_at_call 65; refine (num_Clean _ _).mono ?_; rintro e w' ⟨rfl, rfl⟩)
  go_ret
  refine ⟨⟨_, rfl, HV.out⟩, ?_⟩
  repeat (refine below_drewN ?_ _)
  exact Below.refl _ _
set_option maxRecDepth 100000 in
set_option maxHeartbeats 4000000 in
theorem contrast_c (p2 c v piv : Nat) (u : World) (h5 : u.cell? ⟨p2, 44, none⟩ = some (.float .f32 piv)) (h6 : u.cell? ⟨p2, 45, none⟩ = some (.float .f32 1065353216)) (hv : v < 4294967296) (hn : isNum v = true) (hp : zer0 piv = true) :
    Calls Tryz.prog 95 #[.int .i64 (c : Int), .float .f32 v, .pointer (some ⟨p2, 0, none⟩)] u fun e u' => (∃ r, e = .returned (.float .f32 r) ∧ canon r = conV v piv 1065353216) ∧ Below u.heap.size u u' := by
  have K := Lib.hid (contrast_n v piv u hv hn hp)
  clear hv hn hp
  go_enter Tryz.func95, Tryz.ntmps95
  go_wp2_with fail
  refine K.out.mono ?_
  rintro e w2 ⟨⟨r, rfl, hr⟩, hb⟩
  have HR := Lib.hid (And.intro hr hb)
  clear hr hb
  go_wp2_with fail
  go_ret
  exact ⟨⟨r, rfl, HR.out.1⟩, HR.out.2⟩
end
end Go.Proofs.YticekgnmiaidjaaGreatDoor
