/- Small functions between key frames: Lerp of small numbers, Smooth, Near, and their twins. -/
import Derived.Test.YtfkiljhjiogdlaaKfD
import Derived.Test.YtfkiljhjiogdlaaKfA
namespace Go.Proofs.Ytfkiljhjiogdlaa
open Go.RowKit Ieee

theorem num_LerpP {a b t : Nat} (ha : SmB 20 a) (hb : SmB 20 b) (ht : ∃ s m i, rd t = .number s m i) (W : World) : Calls Try.prog 35 #[.float .f32 a, .float .f32 b, .float .f32 t] W fun e w' => e = .returned (.float .f32 (lerpV a b t)) ∧ W = w' := by
  obtain ⟨n1, n2, n3⟩ := lerp_nn ha hb ht
  have hn := canon_of_num (lerpV_nn ha hb ht)
  have Hn := Lib.hid hn
  have h3c := canon_of_num n3
  obtain ⟨a1, b1⟩ := fres_is n1
  obtain ⟨a2, b2⟩ := fres_is n2
  obtain ⟨a3, b3⟩ := fres_is n3
  clear n1 n2 n3 hn ha hb ht
  cases h0 : (FloatKind.f32.format.order t 0 == some .eq)
  · cases h1 : (FloatKind.f32.format.order t 1065353216 == some .eq)
    · have HH : Hid (lerpV a b t = fop .add a (fop .mul (fop .sub b a) t)) := Lib.hid (by unfold lerpV; rw [h0, h1]; rfl)
      rw [HH.out]
      clear HH Hn
      generalize fop .sub b a = p1 at *
      generalize fop .mul p1 t = p2 at *
      generalize fop .add a p2 = p3 at *
      go_enter Try.func35, Try.ntmps35
      go_wp2_with (go_at_call 59; refine (num_Clean _ _).mono ?_; rintro e w' ⟨rfl, rfl⟩)
      go_ret
      exact ⟨rfl, rfl⟩
    · have HH : Hid (lerpV a b t = canon b) := Lib.hid (by unfold lerpV; rw [h0, h1]; rfl)
      rw [HH.out]
      clear HH Hn a1 a2 a3 b1 b2 b3 h3c
      go_enter Try.func35, Try.ntmps35
      go_wp2_with (go_at_call 59; refine (num_Clean _ _).mono ?_; rintro e w' ⟨rfl, rfl⟩)
      go_ret
      exact ⟨rfl, rfl⟩
  · have HH : Hid (lerpV a b t = canon a) := Lib.hid (by unfold lerpV; rw [h0]; rfl)
    rw [HH.out]
    clear HH Hn a1 a2 a3 b1 b2 b3 h3c
    go_enter Try.func35, Try.ntmps35
    go_wp2_with (go_at_call 59; refine (num_Clean _ _).mono ?_; rintro e w' ⟨rfl, rfl⟩)
    go_ret
    exact ⟨rfl, rfl⟩
theorem ref_LerpP {a b t : Nat} (ha : SmB 20 a) (hb : SmB 20 b) (ht : ∃ s m i, rd t = .number s m i) (W : World) : Calls Try.prog 45 #[.float .f32 a, .float .f32 b, .float .f32 t] W fun e w' => e = .returned (.float .f32 (lerpV a b t)) ∧ W = w' := by
  obtain ⟨n1, n2, n3⟩ := lerp_nn ha hb ht
  have h3c := canon_of_num n3
  obtain ⟨a1, b1⟩ := fres_is n1
  obtain ⟨a2, b2⟩ := fres_is n2
  obtain ⟨a3, b3⟩ := fres_is n3
  clear n1 n2 n3 ha hb ht
  cases h0 : (FloatKind.f32.format.order t 0 == some .eq)
  · cases h1 : (FloatKind.f32.format.order t 1065353216 == some .eq)
    · have HH : Hid (lerpV a b t = fop .add a (fop .mul (fop .sub b a) t)) := Lib.hid (by unfold lerpV; rw [h0, h1]; rfl)
      rw [HH.out]
      clear HH
      generalize fop .sub b a = p1 at *
      generalize fop .mul p1 t = p2 at *
      generalize fop .add a p2 = p3 at *
      go_enter Try.func45, Try.ntmps45
      go_wp2_with (go_at_call 44; refine (ref_Fix _ _).mono ?_; rintro e w' ⟨rfl, rfl⟩)
      go_ret
      exact ⟨rfl, rfl⟩
    · have HH : Hid (lerpV a b t = canon b) := Lib.hid (by unfold lerpV; rw [h0, h1]; rfl)
      rw [HH.out]
      clear HH a1 a2 a3 b1 b2 b3 h3c
      go_enter Try.func45, Try.ntmps45
      go_wp2_with (go_at_call 44; refine (ref_Fix _ _).mono ?_; rintro e w' ⟨rfl, rfl⟩)
      go_ret
      exact ⟨rfl, rfl⟩
  · have HH : Hid (lerpV a b t = canon a) := Lib.hid (by unfold lerpV; rw [h0]; rfl)
    rw [HH.out]
    clear HH a1 a2 a3 b1 b2 b3 h3c
    go_enter Try.func45, Try.ntmps45
    go_wp2_with (go_at_call 44; refine (ref_Fix _ _).mono ?_; rintro e w' ⟨rfl, rfl⟩)
    go_ret
    exact ⟨rfl, rfl⟩
theorem ref_mix {a b t p : Nat} {T : TypeId} (ha : SmB 20 a) (hb : SmB 20 b) (ht : ∃ s m i, rd t = .number s m i) (W : World) (hp : Bx W p T #[.float .f32 t]) : Calls Try.prog 43 #[.float .f32 a, .float .f32 b, .pointer (some ⟨p, 0, none⟩)] W fun e w' => e = .returned (.float .f32 (lerpV a b t)) ∧ W = w' := by
  have L := Lib.hid (fun w => ref_LerpP ha hb ht w)
  have hc := canon_of_num (lerpV_nn ha hb ht)
  clear ha hb ht
  generalize lerpV a b t = r at *
  obtain ⟨q, f, l⟩ := hp.all
  go_enter Try.func43, Try.ntmps43
  go_wp2_with fail
  refine (L.out _).mono ?_
  rintro e w1 ⟨rfl, rfl⟩
  go_wp2_with fail
  refine (ref_Fix _ _).mono ?_
  rintro e w1 ⟨rfl, rfl⟩
  go_wp2_with fail
  go_ret
  exact ⟨rfl, rfl⟩

theorem ref_Limit01 (t : Nat) (w : World) : Calls Try.prog 83 #[.float .f32 t, .float .f32 0, .float .f32 1065353216] w fun e w' => e = .returned (.float .f32 (lim01 t)) ∧ w = w' := by
  cases h1 : ltF t 0
  · cases h2 : gtF t oneB
    · have hv : lim01 t = canon t := by unfold lim01; rw [h1, h2]; rfl
      have g1 : (FloatKind.f32.format.order t 0 == some .lt) = false := h1
      have g2 : (FloatKind.f32.format.order t 1065353216 == some .gt) = false := h2
      rw [hv]
      clear h1 h2 hv
      go_enter Try.func83, Try.ntmps83
      go_wp2_with (go_at_call 44; refine (ref_Fix _ _).mono ?_; rintro e w' ⟨rfl, rfl⟩)
      go_ret
      exact ⟨rfl, rfl⟩
    · have hv : lim01 t = canon 1065353216 := by
        have hc : canon 1065353216 = oneB := by decide
        rw [hc]; unfold lim01; rw [h1, h2]; rfl
      have g1 : (FloatKind.f32.format.order t 0 == some .lt) = false := h1
      have g2 : (FloatKind.f32.format.order t 1065353216 == some .gt) = true := h2
      rw [hv]
      clear h1 h2 hv
      go_enter Try.func83, Try.ntmps83
      go_wp2_with (go_at_call 44; refine (ref_Fix _ _).mono ?_; rintro e w' ⟨rfl, rfl⟩)
      go_ret
      exact ⟨rfl, rfl⟩
  · have hv : lim01 t = canon 0 := by
      have hc : canon 0 = 0 := by decide
      rw [hc]; unfold lim01; rw [h1]; rfl
    have g1 : (FloatKind.f32.format.order t 0 == some .lt) = true := h1
    rw [hv]
    clear h1 hv
    go_enter Try.func83, Try.ntmps83
    go_wp2_with (go_at_call 44; refine (ref_Fix _ _).mono ?_; rintro e w' ⟨rfl, rfl⟩)
    go_ret
    exact ⟨rfl, rfl⟩

theorem ref_SmoothOf (t : Nat) (w : World) (h : isNaN t = false) : Calls Try.prog 42 #[.float .f32 t] w fun e w' => e = .returned (.float .f32 (smB t)) ∧ w = w' := by
  obtain ⟨n1, n2, n3, n4⟩ := sm_parts h
  have hs : smB t = canon (smB t) := (canon_of_num n4).symm
  have hd : smB t = fop .mul (fop .mul (lim01 t) (lim01 t)) (fop .sub 1077936128 (fop .mul 1073741824 (lim01 t))) := rfl
  rw [hs]
  rw [hd] at n4 ⊢
  clear hs hd h
  have n2' : isNaN (fop .mul 1073741824 (lim01 t)) = false := n2
  have n3' : isNaN (fop .sub 1077936128 (fop .mul 1073741824 (lim01 t))) = false := n3
  clear n2 n3
  obtain ⟨a1, b1⟩ := fres_is n1
  obtain ⟨a2, b2⟩ := fres_is n2'
  obtain ⟨a3, b3⟩ := fres_is n3'
  obtain ⟨a4, b4⟩ := fres_is n4
  have L := Lib.hid (fun w => ref_Limit01 t w)
  clear n1 n2' n3' n4
  generalize lim01 t = v at *
  generalize fop .mul v v = p1 at *
  generalize fop .mul 1073741824 v = p2 at *
  generalize fop .sub 1077936128 p2 = p3 at *
  generalize fop .mul p1 p3 = p4 at *
  go_enter Try.func42, Try.ntmps42
  go_wp2_with fail
  refine (L.out _).mono ?_
  rintro e w' ⟨rfl, rfl⟩
  go_wp2_with (go_at_call 44; refine (ref_Fix _ _).mono ?_; rintro e w' ⟨rfl, rfl⟩)
  go_ret
  exact ⟨rfl, rfl⟩
theorem run_rte {b : Nat} (h : (FloatKind.f64.decode b).isNaN = false) (w : World) :
    (callFunc 82 #[.float .f64 b]).run Try.prog w = .ok (.value (.float .f64 (rte b))) w := by
  rw [run_callFunc_extern Try.func82 (by kernel_rfl) (by kernel_rfl) (by kernel_rfl) (e := Extern.MathFloor.toIntegral "math.RoundToEven" .even) (by kernel_rfl)]
  have e : Extern.MathFloor.toIntegral "math.RoundToEven" .even #[.float .f64 b] = Ieee.Datum.casesOn (motive := fun _ => Sem Value) (FloatKind.f64.decode b) (fun s k l => pure (.float .f64 (FloatKind.f64.encode ((Datum.number s k l).integral .even)))) (fun s => pure (.float .f64 (FloatKind.f64.encode ((Datum.infinity s).integral .even))))
      (fun s t => if FloatKind.f64.format.quiet t = t then pure (.float .f64 b) else do
        let kept ← choose (.extern "math.Floor,Ceil,Trunc,RoundToEven.signallingNaN kept" 2)
        pure (.float .f64 (if kept == 1 then b else FloatKind.f64.encode (.nan s (FloatKind.f64.format.quiet t))))) := by
    show (match FloatKind.f64.decode b with | .nan s t => _ | d => _) = _
    cases FloatKind.f64.decode b <;> rfl
  rw [e]
  unfold rte
  cases hd : FloatKind.f64.decode b with
  | nan s t => rw [hd] at h; cases h
  | infinity s => rfl
  | number s m p => rfl
theorem whole_val {b : Nat} {i : Int} (h : (FloatKind.f64.decode b).toInt .zero = some i) (h1 : -1048576 ≤ i) (h2 : i ≤ 1048576) : floatToIntVal .f64 b .i64 = some i := by
  unfold floatToIntVal
  rw [h]
  have : IntKind.i64.min ≤ i ∧ i ≤ IntKind.i64.max := by
    have a : IntKind.i64.min = -9223372036854775808 := rfl
    have b : IntKind.i64.max = 9223372036854775807 := rfl
    rw [a, b]; omega
  show (if IntKind.i64.min ≤ i ∧ i ≤ IntKind.i64.max then some i else none) = some i
  rw [if_pos this]
theorem num_Near {v : Nat} (h : isNaN v = false) (W : World) : Calls Try.prog 36 #[.float .f32 v, .int .i64 (-1048576), .int .i64 1048576] W fun e w' => ∃ b, e = .returned (.tuple #[.int .i64 (nearV v), .bool b, .int .i64 0]) ∧ W = w' := by
  have hv : (FloatKind.f32.format.order v v != some .eq) = false := h
  obtain ⟨w1, w2⟩ := wid_ok h
  have c1 := fun w => run_convert_float_float (P := Try.prog) w 22 109 .f32 .f64 v (wid v) (by kernel_rfl) Try.underlying109 w1
  have c2 := fun w => run_rte w2 w
  cases h1 : lt64 (rte (wid v)) lo64
  · have g1 : (FloatKind.f64.format.order (rte (wid v)) (floatOfInt .f64 (-1048576)) == some .lt) = false := h1
    cases h2 : gt64 (rte (wid v)) hi64
    · have g2 : (FloatKind.f64.format.order (rte (wid v)) (floatOfInt .f64 1048576) == some .gt) = false := h2
      obtain ⟨k1, k2, k3⟩ := near_whole h h1 h2
      have c3 := fun w => run_convert_float_int (P := Try.prog) w 109 3 .f64 .i64 (rte (wid v)) (nearV v) (by kernel_rfl) Try.underlying3 (whole_val k1 k2 k3)
      clear h1 h2 k1 k2 k3 w1 w2 h
      generalize nearV v = z at *
      generalize rte (wid v) = r at *
      generalize wid v = y at *
      go_enter Try.func36, Try.ntmps36
      go_wp2_with fail
      refine bodyPost_ret (v := .tuple #[.int .i64 z, .bool true, .int .i64 0]) (by simp [results, Try.results36, go_sem]) rfl ⟨true, rfl, rfl⟩
    · have g2 : (FloatKind.f64.format.order (rte (wid v)) (floatOfInt .f64 1048576) == some .gt) = true := h2
      have hz : nearV v = 1048576 := by unfold nearV; rw [h1, h2]; rfl
      rw [hz]
      clear h1 h2 hz w1 w2 h
      generalize rte (wid v) = r at *
      generalize wid v = y at *
      go_enter Try.func36, Try.ntmps36
      go_wp2_with fail
      refine bodyPost_ret (v := .tuple #[.int .i64 1048576, .bool false, .int .i64 0]) (by simp [results, Try.results36, go_sem]) rfl ⟨false, rfl, rfl⟩
  · have g1 : (FloatKind.f64.format.order (rte (wid v)) (floatOfInt .f64 (-1048576)) == some .lt) = true := h1
    have hz : nearV v = -1048576 := by unfold nearV; rw [h1]; rfl
    rw [hz]
    clear h1 hz w1 w2 h
    generalize rte (wid v) = r at *
    generalize wid v = y at *
    go_enter Try.func36, Try.ntmps36
    go_wp2_with fail
    refine bodyPost_ret (v := .tuple #[.int .i64 (-1048576), .bool false, .int .i64 0]) (by simp [results, Try.results36, go_sem]) rfl ⟨false, rfl, rfl⟩
theorem ref_NearOf {v : Nat} (h : isNaN v = false) (W : World) : Calls Try.prog 46 #[.float .f32 v, .int .i64 (-1048576), .int .i64 1048576] W fun e w' => ∃ b, e = .returned (.tuple #[.int .i64 (nearV v), .bool b]) ∧ W = w' := by
  have hv : (FloatKind.f32.format.order v v != some .eq) = false := h
  obtain ⟨w1, w2⟩ := wid_ok h
  have c1 := fun w => run_convert_float_float (P := Try.prog) w 22 109 .f32 .f64 v (wid v) (by kernel_rfl) Try.underlying109 w1
  have c2 := fun w => run_rte w2 w
  cases h1 : lt64 (rte (wid v)) lo64
  · have g1 : (FloatKind.f64.format.order (rte (wid v)) (floatOfInt .f64 (-1048576)) == some .lt) = false := h1
    cases h2 : gt64 (rte (wid v)) hi64
    · have g2 : (FloatKind.f64.format.order (rte (wid v)) (floatOfInt .f64 1048576) == some .gt) = false := h2
      obtain ⟨k1, k2, k3⟩ := near_whole h h1 h2
      have c3 := fun w => run_convert_float_int (P := Try.prog) w 109 3 .f64 .i64 (rte (wid v)) (nearV v) (by kernel_rfl) Try.underlying3 (whole_val k1 k2 k3)
      clear h1 h2 k1 k2 k3 w1 w2 h
      generalize nearV v = z at *
      generalize rte (wid v) = r at *
      generalize wid v = y at *
      go_enter Try.func46, Try.ntmps46
      go_wp2_with fail
      go_ret2
      exact ⟨true, rfl, rfl⟩
    · have g2 : (FloatKind.f64.format.order (rte (wid v)) (floatOfInt .f64 1048576) == some .gt) = true := h2
      have hz : nearV v = 1048576 := by unfold nearV; rw [h1, h2]; rfl
      rw [hz]
      clear h1 h2 hz w1 w2 h
      generalize rte (wid v) = r at *
      generalize wid v = y at *
      go_enter Try.func46, Try.ntmps46
      go_wp2_with fail
      go_ret2
      exact ⟨false, rfl, rfl⟩
  · have g1 : (FloatKind.f64.format.order (rte (wid v)) (floatOfInt .f64 (-1048576)) == some .lt) = true := h1
    have hz : nearV v = -1048576 := by unfold nearV; rw [h1]; rfl
    rw [hz]
    clear h1 hz w1 w2 h
    generalize rte (wid v) = r at *
    generalize wid v = y at *
    go_enter Try.func46, Try.ntmps46
    go_wp2_with fail
    go_ret2
    exact ⟨false, rfl, rfl⟩
end Go.Proofs.Ytfkiljhjiogdlaa
