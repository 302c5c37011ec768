/- Lerp: the program's and the reference's. -/
import Derived.Test.YtfkiljhjiogdlaaMem
namespace Go.Proofs.Ytfkiljhjiogdlaa
open Go.RowKit

/-- Lerp, behind Clean. -/
def lerpV (a b t : Nat) : Nat := if (FloatKind.f32.format.order t 0 == some .eq) = true then canon a else if (FloatKind.f32.format.order t 1065353216 == some .eq) = true then canon b else fop .add a (fop .mul (fop .sub b a) t)
theorem canon_lerpV (a b t : Nat) : canon (lerpV a b t) = lerpV a b t := by
  unfold lerpV
  split
  · exact canon_idem _
  · split
    · exact canon_idem _
    · exact canon_fop _ _ _

set_option maxRecDepth 100000 in
set_option maxHeartbeats 1000000 in
theorem num_Lerp (a b t : Nat) (W : World) : Calls Try.prog 35 #[.float .f32 a, .float .f32 b, .float .f32 t] W fun e w' => e = .returned (.float .f32 (lerpV a b t)) ∧ Below W.heap.size W w' := by
  cases h0 : (FloatKind.f32.format.order t 0 == some .eq)
  · cases h1 : (FloatKind.f32.format.order t 1065353216 == some .eq)
    · have HH := Lib.hid (And.intro h0 h1)
      go_enter Try.func35, Try.ntmps35
      go_wp2_with (go_at_call 59; refine (num_Clean _ _).mono ?_; rintro e w' ⟨rfl, rfl⟩)
      go_ret
      refine ⟨ret_f32 ?_, ?_⟩
      · rw [canon_fres, fop_fres_right, ← fop_canon_right, canon_fop, fop_fres_left]
        simp [lerpV, HH.out]
      · repeat (refine below_drewN ?_ _)
        exact Below.refl _ _
    · have HH := Lib.hid (And.intro h0 h1)
      go_enter Try.func35, Try.ntmps35
      go_wp2_with (go_at_call 59; refine (num_Clean _ _).mono ?_; rintro e w' ⟨rfl, rfl⟩)
      go_ret
      exact ⟨ret_f32 (by simp [lerpV, HH.out]), Below.refl _ _⟩
  · have HH := Lib.hid h0
    go_enter Try.func35, Try.ntmps35
    go_wp2_with (go_at_call 59; refine (num_Clean _ _).mono ?_; rintro e w' ⟨rfl, rfl⟩)
    go_ret
    exact ⟨ret_f32 (by simp [lerpV, HH.out]), Below.refl _ _⟩

set_option maxRecDepth 100000 in
set_option maxHeartbeats 1000000 in
theorem ref_LerpOf (a b t : Nat) (W : World) : Calls Try.prog 45 #[.float .f32 a, .float .f32 b, .float .f32 t] W fun e w' => e = .returned (.float .f32 (lerpV a b t)) ∧ Below W.heap.size W w' := by
  cases h0 : (FloatKind.f32.format.order t 0 == some .eq)
  · cases h1 : (FloatKind.f32.format.order t 1065353216 == some .eq)
    · have HH := Lib.hid (And.intro h0 h1)
      go_enter Try.func45, Try.ntmps45
      go_wp2_with (go_at_call 44; refine (ref_Fix _ _).mono ?_; rintro e w' ⟨rfl, rfl⟩)
      go_ret
      refine ⟨ret_f32 ?_, ?_⟩
      · rw [canon_fres, fop_fres_right, ← fop_canon_right, canon_fop, fop_fres_left]
        simp [lerpV, HH.out]
      · repeat (refine below_drewN ?_ _)
        exact Below.refl _ _
    · have HH := Lib.hid (And.intro h0 h1)
      go_enter Try.func45, Try.ntmps45
      go_wp2_with (go_at_call 44; refine (ref_Fix _ _).mono ?_; rintro e w' ⟨rfl, rfl⟩)
      go_ret
      exact ⟨ret_f32 (by simp [lerpV, HH.out]), Below.refl _ _⟩
  · have HH := Lib.hid h0
    go_enter Try.func45, Try.ntmps45
    go_wp2_with (go_at_call 44; refine (ref_Fix _ _).mono ?_; rintro e w' ⟨rfl, rfl⟩)
    go_ret
    exact ⟨ret_f32 (by simp [lerpV, HH.out]), Below.refl _ _⟩
end Go.Proofs.Ytfkiljhjiogdlaa
