/- The scalar functions of num and of the references, walked: each gives the value of its Lean function. -/
import Derived.Test.YteebkfdocdmboaaDoorProg
import Derived.Test.YteebkfdocdmboaaDoorFl
namespace Go.Proofs.YteebkfdocdmboaaDoor
open Go.RowKit

@[go_sem] theorem run_frombits (n : Int) (w : World) : (callFunc 42 #[.int .u32 n]).run Tryd.prog w = .ok (.value (.float .f32 n.toNat)) w := by
  rw [run_callFunc_extern Tryd.func42 (by kernel_rfl) (by kernel_rfl) (by kernel_rfl) (e := Extern.MathFloatBits.float32frombits) (by kernel_rfl)]; rfl
@[go_sem] theorem run_tobits (b : Nat) (w : World) : (callFunc 33 #[.float .f32 b]).run Tryd.prog w = .ok (.value (.int .u32 b)) w := by
  rw [run_callFunc_extern Tryd.func33 (by kernel_rfl) (by kernel_rfl) (by kernel_rfl) (e := Extern.MathFloatBits.float32bits) (by kernel_rfl)]; rfl

set_option maxRecDepth 100000 in
theorem num_Clean (b : Nat) (w : World) : Calls Tryd.prog 34 #[.float .f32 b] w fun e w' => e = .returned (.float .f32 (canon b)) ∧ w = w' := by
  cases hb : (FloatKind.f32.format.order b b != some .eq)
  · go_enter Tryd.func34, Tryd.ntmps34
    go_wp2
    go_ret
    exact ⟨by simp [canon, isNaN, hb], rfl⟩
  · go_enter Tryd.func34, Tryd.ntmps34
    go_wp2
    go_ret
    exact ⟨by simp [canon, isNaN, hb, theNaN], rfl⟩

theorem num_Bits (b : Nat) (w : World) : Calls Tryd.prog 15 #[.float .f32 b] w fun e w' => e = .returned (.int .u32 (canon b)) ∧ w = w' := by
  go_enter Tryd.func15, Tryd.ntmps15
  go_wp2_with (go_at_call 34; refine (num_Clean _ _).mono ?_; rintro e w' ⟨rfl, rfl⟩)
  go_ret
  exact ⟨rfl, rfl⟩

theorem law_landed (w : World) : Calls Tryd.prog 4 #[] w fun e w' => e = .returned (.bool true) ∧ w = w' := by
  go_enter Tryd.func4, Tryd.ntmps4
  go_wp2_with (go_at_call 15; refine (num_Bits _ _).mono ?_; rintro e w' ⟨rfl, rfl⟩)
  go_ret
  exact ⟨ret_bool (by decide), rfl⟩

end Go.Proofs.YteebkfdocdmboaaDoor
