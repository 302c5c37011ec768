/- num.Limit, Smooth, Root; key.fade, edge: where no NaN comes of it. -/
import Derived.Test.YtfkiljhjiogdlaaWnP
import Derived.Test.YtfkiljhjiogdlaaAbs
namespace Go.Proofs.Ytfkiljhjiogdlaa
open Go.RowKit

theorem fres_is {op : BinOp} {x y : Nat} (h : isNaN (fop op x y) = false) : (∀ w, fres op .f32 x y w = fop op x y) ∧ fdr op .f32 x y = 0 := by
  cases hb : floatBits op .f32 x y with
  | none =>
    exfalso
    have : fop op x y = theNaN := by unfold fop; rw [hb]; rfl
    rw [this] at h
    revert h; decide
  | some r =>
    have hr : fop op x y = canon r := by unfold fop; rw [hb]; rfl
    have hn : isNaN r = false := by
      cases hn : isNaN r
      · rfl
      · rw [hr, canon_of_nan hn] at h
        revert h; decide
    rw [hr, canon_of_num hn]
    exact ⟨fun w => by simp [fres, hb], by simp [fdr, hb]⟩

theorem num_Limit01 (t : Nat) (w : World) : Calls Try.prog 81 #[.float .f32 t, .float .f32 0, .float .f32 1065353216] w fun e w' => e = .returned (.float .f32 (lim01 t)) ∧ w = w' := by
  cases h1 : ltF t 0
  · cases h2 : gtF t oneB
    · have hv : lim01 t = canon t := by unfold lim01; rw [h1, h2]; rfl
      have g1 : (FloatKind.f32.format.order t 0 == some .lt) = false := h1
      have g2 : (FloatKind.f32.format.order t 1065353216 == some .gt) = false := h2
      rw [hv]
      clear h1 h2 hv
      go_enter Try.func81, Try.ntmps81
      go_wp2_with (go_at_call 59; refine (num_Clean _ _).mono ?_; rintro e w' ⟨rfl, rfl⟩)
      go_ret
      exact ⟨rfl, rfl⟩
    · have hv : lim01 t = canon 1065353216 := by
        have hc : canon 1065353216 = oneB := by decide
        rw [hc]; unfold lim01; rw [h1, h2]; rfl
      have g1 : (FloatKind.f32.format.order t 0 == some .lt) = false := h1
      have g2 : (FloatKind.f32.format.order t 1065353216 == some .gt) = true := h2
      rw [hv]
      clear h1 h2 hv
      go_enter Try.func81, Try.ntmps81
      go_wp2_with (go_at_call 59; refine (num_Clean _ _).mono ?_; rintro e w' ⟨rfl, rfl⟩)
      go_ret
      exact ⟨rfl, rfl⟩
  · have hv : lim01 t = canon 0 := by
      have hc : canon 0 = 0 := by decide
      rw [hc]; unfold lim01; rw [h1]; rfl
    have g1 : (FloatKind.f32.format.order t 0 == some .lt) = true := h1
    rw [hv]
    clear h1 hv
    go_enter Try.func81, Try.ntmps81
    go_wp2_with (go_at_call 59; refine (num_Clean _ _).mono ?_; rintro e w' ⟨rfl, rfl⟩)
    go_ret
    exact ⟨rfl, rfl⟩

theorem num_Smooth (t : Nat) (w : World) (h : isNaN t = false) : Calls Try.prog 34 #[.float .f32 t] w fun e w' => e = .returned (.float .f32 (smB t)) ∧ w = w' := by
  obtain ⟨n1, n2, n3, n4⟩ := sm_parts h
  have hs : smB t = canon (smB t) := (canon_of_num n4).symm
  have hd : smB t = fop .mul (fop .mul (lim01 t) (lim01 t)) (fop .sub 1077936128 (fop .mul 1073741824 (lim01 t))) := rfl
  rw [hs]
  rw [hd] at n4 ⊢
  clear hs hd h
  have n2' : isNaN (fop .mul 1073741824 (lim01 t)) = false := n2
  have n3' : isNaN (fop .sub 1077936128 (fop .mul 1073741824 (lim01 t))) = false := n3
  clear n2 n3
  obtain ⟨a1, b1⟩ := fres_is n1
  obtain ⟨a2, b2⟩ := fres_is n2'
  obtain ⟨a3, b3⟩ := fres_is n3'
  obtain ⟨a4, b4⟩ := fres_is n4
  have L := Lib.hid (fun w => num_Limit01 t w)
  clear n1 n2' n3' n4
  generalize lim01 t = v at *
  generalize fop .mul v v = p1 at *
  generalize fop .mul 1073741824 v = p2 at *
  generalize fop .sub 1077936128 p2 = p3 at *
  generalize fop .mul p1 p3 = p4 at *
  go_enter Try.func34, Try.ntmps34
  go_wp2_with fail
  refine (L.out _).mono ?_
  rintro e w' ⟨rfl, rfl⟩
  go_wp2_with (go_at_call 59; refine (num_Clean _ _).mono ?_; rintro e w' ⟨rfl, rfl⟩)
  go_ret
  exact ⟨rfl, rfl⟩
theorem key_fade (d soft : Nat) (w : World) (hd : isNaN d = false) (hp : gtF d 0 = true) (hs : ∃ s m i, rd soft = .number s m i) : Calls Try.prog 103 #[.float .f32 d, .float .f32 soft] w fun e w' => e = .returned (.float .f32 (fadeB d soft)) ∧ w = w' := by
  cases h1 : ltF d soft
  · have hv : fadeB d soft = 0 := by unfold fadeB; rw [h1]; rfl
    have g1 : (FloatKind.f32.format.order d soft == some .lt) = false := h1
    rw [hv]
    clear h1 hv hp hs hd
    go_enter Try.func103, Try.ntmps103
    go_wp2_with fail
    go_ret
    exact ⟨rfl, rfl⟩
  · have hv : fadeB d soft = fop .sub 1065353216 (smB (fop .quo d soft)) := by unfold fadeB; rw [h1]; rfl
    have g1 : (FloatKind.f32.format.order d soft == some .lt) = true := h1
    have n1 := fade_quo hd hp hs h1
    have n2 : isNaN (fop .sub 1065353216 (smB (fop .quo d soft))) = false := sub_nn_left ⟨_, _, _, rd_one⟩ (sm_nn n1)
    obtain ⟨a1, b1⟩ := fres_is n1
    obtain ⟨a2, b2⟩ := fres_is n2
    have L := Lib.hid (fun w => num_Smooth (fop .quo d soft) w n1)
    rw [hv]
    clear h1 hv hp hs hd n1 n2
    generalize fop .quo d soft = q at *
    generalize smB q = v at *
    generalize fop .sub 1065353216 v = r at *
    go_enter Try.func103, Try.ntmps103
    go_wp2_with fail
    refine (L.out _).mono ?_
    rintro e w' ⟨rfl, rfl⟩
    go_wp2_with fail
    go_ret
    exact ⟨rfl, rfl⟩
theorem key_edge (d soft : Nat) (w : World) (hd : isNaN d = false) (hs : ∃ s m i, rd soft = .number s m i) : Calls Try.prog 75 #[.float .f32 d, .float .f32 soft] w fun e w' => e = .returned (.float .f32 (edgeB d soft)) ∧ w = w' := by
  cases h1 : gtF d 0
  · have hv : edgeB d soft = 1065353216 := by unfold edgeB; rw [h1]; rfl
    have g1 : (FloatKind.f32.format.order d 0 == some .gt) = false := h1
    rw [hv]
    clear h1 hv hs hd
    go_enter Try.func75, Try.ntmps75
    go_wp2_with fail
    go_ret
    exact ⟨rfl, rfl⟩
  · have hv : edgeB d soft = fadeB d soft := by unfold edgeB; rw [h1]; rfl
    have g1 : (FloatKind.f32.format.order d 0 == some .gt) = true := h1
    have L := Lib.hid (fun w => key_fade d soft w hd h1 hs)
    rw [hv]
    clear h1 hv hs hd
    generalize fadeB d soft = v at *
    go_enter Try.func75, Try.ntmps75
    go_wp2_with fail
    refine (L.out _).mono ?_
    rintro e w' ⟨rfl, rfl⟩
    go_wp2_with fail
    go_ret
    exact ⟨rfl, rfl⟩
theorem run_sqrt (x r : Nat) (w : World) (h : FloatKind.f64.format.sqrt x = some r) : (callFunc 112 #[.float .f64 x]).run Try.prog w = .ok (.value (.float .f64 r)) w := by
  rw [run_callFunc_extern Try.func112 (by kernel_rfl) (by kernel_rfl) (by kernel_rfl) (e := Extern.MathSqrt.sqrt) (by kernel_rfl)]
  have e : Extern.MathSqrt.sqrt #[.float .f64 x] = Option.casesOn (motive := fun _ => Sem Value) (FloatKind.f64.format.sqrt x) (do pure (.float .f64 (← choose (.nanBits .f64 x x)))) (fun r => pure (.float .f64 r)) := by
    show (match FloatKind.f64.format.sqrt x with | some r => _ | none => _) = _
    cases FloatKind.f64.format.sqrt x <;> rfl
  rw [e, h]
  rfl
theorem num_Root (b : Nat) (w : World) (h : pnF b) : Calls Try.prog 76 #[.float .f32 b] w fun e w' => e = .returned (.float .f32 (rootF b)) ∧ w = w' := by
  obtain ⟨r1, r2, r3, h1, h2, h3, h4, _⟩ := root_ok h
  have c1 := fun w => run_convert_float_float (P := Try.prog) w 22 109 .f32 .f64 b r1 (by kernel_rfl) Try.underlying109 h1
  have c2 := fun w => run_sqrt r1 r2 w h2
  have c3 := fun w => run_convert_float_float (P := Try.prog) w 109 22 .f64 .f32 _ r3 (by kernel_rfl) Try.underlying22 h3
  rw [← h4]
  clear h1 h2 h3 h4 h
  go_enter Try.func76, Try.ntmps76
  go_wp2_with (first | (go_at_call 104; go_in) | (go_at_call 59; refine (num_Clean _ _).mono ?_; rintro e w' ⟨rfl, rfl⟩))
  go_ret
  exact ⟨rfl, rfl⟩
end Go.Proofs.Ytfkiljhjiogdlaa
