/- Lumas; the closures of False and Zebra, of the program and of the reference. -/
import Derived.Test.YtlfcedecobebmaaNum2
import Derived.Test.YtlfcedecobebmaaCln
namespace Go.Proofs.Ytlfcedecobebmaa
open Go.RowKit

/-- The luma of a pixel. -/
def lumaV (W0 W1 W2 : Nat) (p : Nat → Nat) : Nat := fop .add (fop .add (fop .mul W0 (p 0)) (fop .mul W1 (p 1))) (fop .mul W2 (p 2))

set_option maxRecDepth 100000 in
set_option maxHeartbeats 1000000 in
theorem colour_Luma (a b c : Nat) (p : Nat → Nat) (W : World) :
    Calls Try.prog 36 #[.agg #[.float .f32 a, .float .f32 b, .float .f32 c], .agg #[.float .f32 (p 0), .float .f32 (p 1), .float .f32 (p 2), .float .f32 (p 3)]] W fun e w' => e = .returned (.float .f32 (lumaV a b c p)) ∧ Below W.heap.size W w' := by
  generalize hp0 : p 0 = p0
  generalize hp1 : p 1 = p1
  generalize hp2 : p 2 = p2
  generalize p 3 = p3
  have hl : lumaV a b c p = fop .add (fop .add (fop .mul a p0) (fop .mul b p1)) (fop .mul c p2) := by unfold lumaV; rw [hp0, hp1, hp2]
  have Hl := Lib.hid hl
  clear hl hp0 hp1 hp2
  go_enter Try.func36, Try.ntmps36
  go_wp2_with fail
  refine (num_Clean _ _).mono ?_
  rintro e w1 ⟨rfl, rfl⟩
  go_wp2_with fail
  go_ret
  refine ⟨ret_f32 ?_, ?_⟩
  · rw [Hl.out]; simp only [canon_fres, fop_fres_left, fop_fres_right]
  · repeat (refine below_drewN ?_ _)
    exact bnew (bnew (Below.refl _ W))

set_option maxRecDepth 100000 in
set_option maxHeartbeats 1000000 in
theorem ref_LumaOf (a b c : Nat) (p : Nat → Nat) (W : World) :
    Calls Try.prog 47 #[.agg #[.float .f32 a, .float .f32 b, .float .f32 c], .agg #[.float .f32 (p 0), .float .f32 (p 1), .float .f32 (p 2), .float .f32 (p 3)]] W fun e w' => e = .returned (.float .f32 (lumaV a b c p)) ∧ Below W.heap.size W w' := by
  generalize hp0 : p 0 = p0
  generalize hp1 : p 1 = p1
  generalize hp2 : p 2 = p2
  generalize p 3 = p3
  have hl : lumaV a b c p = fop .add (fop .add (fop .mul a p0) (fop .mul b p1)) (fop .mul c p2) := by unfold lumaV; rw [hp0, hp1, hp2]
  have Hl := Lib.hid hl
  clear hl hp0 hp1 hp2
  go_enter Try.func47, Try.ntmps47
  go_wp2_with fail
  refine (ref_Fix _ _).mono ?_
  rintro e w1 ⟨rfl, rfl⟩
  go_wp2_with fail
  go_ret
  refine ⟨ret_f32 ?_, ?_⟩
  · rw [Hl.out]; simp only [canon_fres, fop_fres_left, fop_fres_right]
  · repeat (refine below_drewN ?_ _)
    exact bnew (bnew (Below.refl _ W))
end Go.Proofs.Ytlfcedecobebmaa
