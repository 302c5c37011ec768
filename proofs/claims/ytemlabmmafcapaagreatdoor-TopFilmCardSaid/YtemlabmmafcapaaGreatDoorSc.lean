/- The scalar functions of num and of the references, walked: each gives the value of its Lean function. -/
import Derived.Test.YtemlabmmafcapaaGreatDoorProg
import Derived.Test.YtemlabmmafcapaaGreatDoorFl
namespace Go.Proofs.YtemlabmmafcapaaGreatDoor
open Go.RowKit

@[go_sem] theorem run_frombits (n : Int) (w : World) : (callFunc 52 #[.int .u32 n]).run Tryz.prog w = .ok (.value (.float .f32 n.toNat)) w := by
  rw [run_callFunc_extern Tryz.func52 (by kernel_rfl) (by kernel_rfl) (by kernel_rfl) (e := Extern.MathFloatBits.float32frombits) (by kernel_rfl)]; rfl
@[go_sem] theorem run_tobits (b : Nat) (w : World) : (callFunc 31 #[.float .f32 b]).run Tryz.prog w = .ok (.value (.int .u32 b)) w := by
  rw [run_callFunc_extern Tryz.func31 (by kernel_rfl) (by kernel_rfl) (by kernel_rfl) (e := Extern.MathFloatBits.float32bits) (by kernel_rfl)]; rfl

set_option maxRecDepth 100000 in
theorem num_Clean (b : Nat) (w : World) : Calls Tryz.prog 32 #[.float .f32 b] w fun e w' => e = .returned (.float .f32 (canon b)) ∧ w = w' := by
  cases hb : (FloatKind.f32.format.order b b != some .eq)
  · go_enter Tryz.func32, Tryz.ntmps32
    go_wp2
    go_ret
    exact ⟨by simp [canon, isNaN, hb], rfl⟩
  · go_enter Tryz.func32, Tryz.ntmps32
    go_wp2
    go_ret
    exact ⟨by simp [canon, isNaN, hb, theNaN], rfl⟩

theorem num_Bits (b : Nat) (w : World) : Calls Tryz.prog 10 #[.float .f32 b] w fun e w' => e = .returned (.int .u32 (canon b)) ∧ w = w' := by
  go_enter Tryz.func10, Tryz.ntmps10
  go_wp2_with (go_at_call 32; refine (num_Clean _ _).mono ?_; rintro e w' ⟨rfl, rfl⟩)
  go_ret
  exact ⟨rfl, rfl⟩

end Go.Proofs.YtemlabmmafcapaaGreatDoor
