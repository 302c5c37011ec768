/- num.Floor of a small single; scope.bin. -/
import Derived.Test.YtoffnmpnhddaiaaFlt2
import Derived.Test.YtoffnmpnhddaiaaCol4
namespace Go.Proofs.Ytoffnmpnhddaiaa
open Go.RowKit Ieee

theorem run_archFloor (b : Nat) (s : Bool) (k : Nat) (l : Int) (h : FloatKind.f64.decode b = .number s k l) (w : World) :
    (callFunc 166 #[.float .f64 b]).run Try.prog w = .ok (.value (.float .f64 (FloatKind.f64.encode ((Datum.number s k l).integral .down)))) w := by
  rw [run_callFunc_extern Try.func166 (by kernel_rfl) (by kernel_rfl) (by kernel_rfl) (e := Extern.MathFloor.toIntegral "math.archFloor" .down) (by kernel_rfl)]
  have e : Extern.MathFloor.toIntegral "math.archFloor" .down #[.float .f64 b] = Ieee.Datum.casesOn (motive := fun _ => Sem Value) (FloatKind.f64.decode b) (fun s k l => pure (.float .f64 (FloatKind.f64.encode ((Datum.number s k l).integral .down)))) (fun s => pure (.float .f64 (FloatKind.f64.encode ((Datum.infinity s).integral .down))))
      (fun s t => if FloatKind.f64.format.quiet t = t then pure (.float .f64 b) else do
        let kept ← choose (.extern "math.Floor,Ceil,Trunc,RoundToEven.signallingNaN kept" 2)
        pure (.float .f64 (if kept == 1 then b else FloatKind.f64.encode (.nan s (FloatKind.f64.format.quiet t))))) := by
    show (match FloatKind.f64.decode b with | .nan s t => _ | d => _) = _
    cases FloatKind.f64.decode b <;> rfl
  rw [e, h]
  rfl

theorem math_Floor (b : Nat) (s : Bool) (k : Nat) (l : Int) (h : FloatKind.f64.decode b = .number s k l) (w : World) :
    Calls Try.prog 164 #[.float .f64 b] w fun e w' => e = .returned (.float .f64 (FloatKind.f64.encode ((Datum.number s k l).integral .down))) ∧ w = w' := by
  have hf := run_archFloor b s k l h
  generalize FloatKind.f64.encode ((Datum.number s k l).integral .down) = r at *
  go_enter Try.func164, Try.ntmps164
  go_wp2
  go_ret
  exact ⟨rfl, rfl⟩

theorem num_Floor (b r1 r3 : Nat) (s : Bool) (k : Nat) (l : Int) (w : World) (h1 : floatToFloatBits .f32 b .f64 = some r1) (h2 : FloatKind.f64.decode r1 = .number s k l) (h3 : floatToFloatBits .f64 (FloatKind.f64.encode ((Datum.number s k l).integral .down)) .f32 = some r3) :
    Calls Try.prog 162 #[.float .f32 b] w fun e w' => e = .returned (.float .f32 r3) ∧ w = w' := by
  have c1 := fun w => run_convert_float_float (P := Try.prog) w 33 142 .f32 .f64 b r1 (by kernel_rfl) Try.underlying142 h1
  have c3 := fun w => run_convert_float_float (P := Try.prog) w 142 33 .f64 .f32 _ r3 (by kernel_rfl) Try.underlying33 h3
  have hf := math_Floor r1 s k l h2
  clear h1 h2 h3
  generalize FloatKind.f64.encode ((Datum.number s k l).integral .down) = r at *
  go_enter Try.func162, Try.ntmps162
  go_wp2_with (go_at_call 164; refine (hf _).mono ?_; rintro e w' ⟨rfl, rfl⟩)
  go_ret
  exact ⟨rfl, rfl⟩

/-- Less, as Go's < asks it. -/
def ltB (a b : Nat) : Bool := FloatKind.f32.format.order a b == some .lt
/-- The number of a bin. -/
def binN (lo hi : Nat) (n : Nat) (v : Nat) : Int :=
  if isNaN v then -2 else if ltB v lo then -1 else if geB v hi then n else if ltB (binT lo hi v n) (floatOfInt .f32 (n : Int)) then (wholeOf (binT lo hi v n) : Int) else n - 1

theorem order_canon_left (a b : Nat) : FloatKind.f32.format.order (canon a) b = FloatKind.f32.format.order a b := by
  cases h : isNaN a
  · rw [canon_of_num h]
  · rw [canon_of_nan h]
    show (rd theNaN).order (rd b) = (rd a).order (rd b)
    rw [isNaN_iff] at h
    rw [order_none_left h, order_none_left (by decide)]
theorem not_lt_of {v lo : Nat} (hv : isNaN v = false) (hl : isNum lo = true) (h : ltB v lo = false) : FloatKind.f32.format.order v lo = some .gt ∨ FloatKind.f32.format.order v lo = some .eq := by
  obtain ⟨t, n, j, hlo⟩ := isNum_rd hl
  unfold ltB at h
  rw [isNaN_iff] at hv
  show (rd v).order (rd lo) = _ ∨ (rd v).order (rd lo) = _
  have h' : ((rd v).order (rd lo) == some .lt) = false := h
  rw [hlo] at h' ⊢
  cases hr : rd v with
  | nan s f => rw [hr] at hv; simp [Datum.isNaN] at hv
  | infinity s => rw [hr] at h'; cases s <;> simp [Datum.order] at h' ⊢
  | number s m i =>
    rw [hr] at h'
    simp only [Datum.order] at h' ⊢
    revert h'
    cases compare (signed s m (i - min i j).toNat) (signed t n (j - min i j).toNat) <;> simp
theorem lt_num {a b : Nat} (h : ltB a b = true) : isNaN a = false := by
  cases hn : isNaN a
  · rfl
  · unfold ltB at h
    rw [isNaN_iff] at hn
    have : FloatKind.f32.format.order a b = none := order_none_left (d := rd a) (e := rd b) hn
    rw [this] at h
    cases h
theorem binN_bd {lo hi n v : Nat} (hlo : isNum lo = true) (hhi : isNum hi = true) (hlt : ltB lo hi = true) (hn1 : 1 ≤ n) (hn : n ≤ 1024) : binN lo hi n v = -2 ∨ binN lo hi n v = -1 ∨ binN lo hi n v = n ∨ ∃ q : Nat, q < n ∧ binN lo hi n v = q := by
  unfold binN
  split
  · exact .inl rfl
  · rename_i h1
    split
    · exact .inr (.inl rfl)
    · rename_i h2
      split
      · exact .inr (.inr (.inl rfl))
      · refine .inr (.inr (.inr ?_))
        split
        · rename_i h4
          have hNN := binT_NN (v := v) (n := n) hlo hhi (by omega) (not_lt_of (by simpa using h1) hlo (by simpa using h2)) (by simpa [ltB] using hlt)
          obtain ⟨_, _, _, _, _, _, _, _, _, _, hq⟩ := whole_small (n := n) (by omega) hNN (by simpa [ltB] using h4)
          exact ⟨_, hq, rfl⟩
        · exact ⟨n - 1, by omega, by omega⟩

set_option maxRecDepth 100000 in
set_option maxHeartbeats 2000000 in
theorem scope_bin (lo hi n v : Nat) (W : World) (hlo : isNum lo = true) (hhi : isNum hi = true) (hlt : ltB lo hi = true) (hn1 : 1 ≤ n) (hn : n ≤ 1024) :
    Calls Try.prog 148 #[.agg #[.float .f32 lo, .float .f32 hi, .int .i64 (n : Int)], .float .f32 v] W fun e w' => e = .returned (.int .i64 (binN lo hi n v)) ∧ Below W.heap.size W w' := by
  generalize hr : binN lo hi n v = res
  unfold binN at hr
  have B0 : Below W.heap.size W (W.alloc (.cells #[.float .f32 lo, .float .f32 hi, .int .i64 (n : Int)] 107)) := bnew (Below.refl _ W)
  cases h1 : isNaN v
  · rw [h1] at hr
    have g1 : (FloatKind.f32.format.order v v != some .eq) = false := h1
    cases h2 : ltB v lo
    · rw [h2] at hr
      have g2 : (FloatKind.f32.format.order v lo == some .lt) = false := h2
      cases h3 : geB v hi
      · rw [h3] at hr
        simp only [Bool.false_eq_true, if_false] at hr
        have hNN := binT_NN (v := v) (n := n) hlo hhi (by omega) (not_lt_of h1 hlo h2) (by simpa [ltB] using hlt)
        have g3 : (FloatKind.f32.format.order v hi == some .gt || FloatKind.f32.format.order v hi == some .eq) = false := h3
        have Hr := Lib.hid (And.intro hr hNN)
        clear hr hNN hlo hhi hlt h1 h2 h3
        go_enter Try.func148, Try.ntmps148
        go_upto_region 7 with fail
        refine name_world ?_
        intro wb hwb
        have x2 : Bx wb W.heap.size 107 #[.float .f32 lo, .float .f32 hi, .int .i64 (n : Int)] := by rw [hwb]; exact Bx.new _ _ _
        have B1 : Below W.heap.size W wb := by rw [hwb]; exact B0
        clear hwb B0
        obtain ⟨q2, f2, l2⟩ := x2.all
        go_upto_region 8 with fail
        generalize ht : fres .mul .f32 (fres .quo .f32 (fres .sub .f32 v lo wb) (fres .sub .f32 hi lo (wb.drewN (fdr .sub .f32 v lo))) (wb.drewN (fdr .sub .f32 v lo + fdr .sub .f32 hi lo))) (floatOfInt .f32 (n : Int)) (wb.drewN (fdr .sub .f32 v lo + fdr .sub .f32 hi lo + fdr .quo .f32 (fres .sub .f32 v lo wb) (fres .sub .f32 hi lo (wb.drewN (fdr .sub .f32 v lo))))) = t
        have hct : canon t = binT lo hi v n := by
          rw [← ht]
          simp only [canon_fres, fop_fres_left, fop_fres_right]
          rfl
        clear ht
        rw [← hct] at Hr
        refine name_world ?_
        intro w1 hw1
        have y2 : Bx w1 W.heap.size 107 #[.float .f32 lo, .float .f32 hi, .int .i64 (n : Int)] := by rw [hw1]; exact Bx.drewN x2 _
        have B2 : Below W.heap.size W w1 := by rw [hw1]; exact below_drewN B1 _
        clear hw1 hct x2 B1 q2 f2 l2
        obtain ⟨q2, f2, l2⟩ := y2.all
        cases h4 : ltB t (floatOfInt .f32 (n : Int))
        · have g4 : (FloatKind.f32.format.order t (floatOfInt .f32 (n : Int)) == some .lt) = false := h4
          have hr : res = (n : Int) - 1 := by
            have := Hr.out.1
            unfold ltB at this h4
            rw [order_canon_left, h4] at this
            simpa using this.symm
          have Hr2 := Lib.hid hr
          clear hr Hr h4
          go_wp2_with fail
          go_ret
          exact ⟨ret_int Hr2.out.symm, B2⟩
        · have g4 : (FloatKind.f32.format.order t (floatOfInt .f32 (n : Int)) == some .lt) = true := h4
          have hcan : canon t = t := canon_of_num (lt_num h4)
          rw [hcan] at Hr
          have hr : res = (wholeOf t : Int) := by
            have := Hr.out.1
            rw [h4] at this
            simpa using this.symm
          obtain ⟨r1, s, k, l, r3, e1, e2, e3, e4, e5, e6⟩ := whole_small (n := n) (by omega) Hr.out.2 (by simpa using g4)
          rw [← e3] at e4
          have hfl := fun w => num_Floor t r1 r3 s k l w e1 e2 e4
          have c5 := fun w => run_convert_float_int (P := Try.prog) w 33 3 .f32 .i64 r3 (wholeOf t : Int) (by kernel_rfl) Try.underlying3 e5
          have Hr2 := Lib.hid hr
          clear hr Hr h4 hcan e1 e2 e3 e4 e5
          generalize wholeOf t = q at *
          go_upto_region 10 with fail
          refine wp_region_all (fun z : BW w1.heap.size w1 => z.w) (by kernel_rfl) (by kernel_rfl) (BW.start _ _) rfl ?_
          repeat (go_big_quiet_step ((go_at_call 162; exact BW.call_same _ (hfl _))))
          refine wpQuiet_nil ?_
          intro z
          have B3 := bcall B2 z.below
          go_wp2_with fail
          go_ret
          refine ⟨ret_int ?_, B3⟩
          have := imin_spec (q : Int) ((n : Int) - 1)
          rw [Hr2.out]
          omega
      · rw [h3] at hr
        simp only [Bool.false_eq_true, if_false, if_true] at hr
        have g3 : (FloatKind.f32.format.order v hi == some .gt || FloatKind.f32.format.order v hi == some .eq) = true := h3
        have Hr := Lib.hid hr
        clear hr hlo hhi hlt h1 h2 h3
        go_enter Try.func148, Try.ntmps148
        go_wp2_with fail
        go_ret
        exact ⟨ret_int Hr.out, B0⟩
    · rw [h2] at hr
      simp only [Bool.false_eq_true, if_false, if_true] at hr
      have g2 : (FloatKind.f32.format.order v lo == some .lt) = true := h2
      have Hr := Lib.hid hr
      clear hr hlo hhi hlt h1 h2
      go_enter Try.func148, Try.ntmps148
      go_wp2_with fail
      go_ret
      exact ⟨ret_int Hr.out, B0⟩
  · rw [h1] at hr
    simp only [if_true] at hr
    have g1 : (FloatKind.f32.format.order v v != some .eq) = true := h1
    have Hr := Lib.hid hr
    clear hr hlo hhi hlt h1
    go_enter Try.func148, Try.ntmps148
    go_wp2_with fail
    go_ret
    exact ⟨ret_int Hr.out, B0⟩
end Go.Proofs.Ytoffnmpnhddaiaa
