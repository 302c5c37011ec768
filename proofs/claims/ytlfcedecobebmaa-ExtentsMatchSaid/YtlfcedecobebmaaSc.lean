/- The scalar functions of num and of the references, walked: each gives the value of its Lean function. -/
import Derived.Test.YtlfcedecobebmaaProg
import Derived.Test.YtlfcedecobebmaaFl
namespace Go.Proofs.Ytlfcedecobebmaa
open Go.RowKit

@[go_sem] theorem run_frombits (n : Int) (w : World) : (callFunc 42 #[.int .u32 n]).run Try.prog w = .ok (.value (.float .f32 n.toNat)) w := by
  rw [run_callFunc_extern Try.func42 (by kernel_rfl) (by kernel_rfl) (by kernel_rfl) (e := Extern.MathFloatBits.float32frombits) (by kernel_rfl)]; rfl
@[go_sem] theorem run_tobits (b : Nat) (w : World) : (callFunc 30 #[.float .f32 b]).run Try.prog w = .ok (.value (.int .u32 b)) w := by
  rw [run_callFunc_extern Try.func30 (by kernel_rfl) (by kernel_rfl) (by kernel_rfl) (e := Extern.MathFloatBits.float32bits) (by kernel_rfl)]; rfl

set_option maxRecDepth 100000 in
theorem num_Clean (b : Nat) (w : World) : Calls Try.prog 24 #[.float .f32 b] w fun e w' => e = .returned (.float .f32 (canon b)) ∧ w = w' := by
  cases hb : (FloatKind.f32.format.order b b != some .eq)
  · go_enter Try.func24, Try.ntmps24
    go_wp2
    go_ret
    exact ⟨by simp [canon, isNaN, hb], rfl⟩
  · go_enter Try.func24, Try.ntmps24
    go_wp2
    go_ret
    exact ⟨by simp [canon, isNaN, hb, theNaN], rfl⟩

theorem num_Bits (b : Nat) (w : World) : Calls Try.prog 14 #[.float .f32 b] w fun e w' => e = .returned (.int .u32 (canon b)) ∧ w = w' := by
  go_enter Try.func14, Try.ntmps14
  go_wp2_with (go_at_call 24; refine (num_Clean _ _).mono ?_; rintro e w' ⟨rfl, rfl⟩)
  go_ret
  exact ⟨rfl, rfl⟩

theorem ref_TheNaN (w : World) : Calls Try.prog 59 #[] w fun e w' => e = .returned (.float .f32 theNaN) ∧ w = w' := by
  go_enter Try.func59, Try.ntmps59
  go_wp2
  go_ret
  exact ⟨rfl, rfl⟩

set_option maxRecDepth 100000 in
theorem ref_Fix (b : Nat) (w : World) : Calls Try.prog 46 #[.float .f32 b] w fun e w' => e = .returned (.float .f32 (canon b)) ∧ w = w' := by
  cases hb : (FloatKind.f32.format.order b b != some .eq)
  · go_enter Try.func46, Try.ntmps46
    go_wp2
    go_ret
    exact ⟨by simp [canon, isNaN, hb], rfl⟩
  · go_enter Try.func46, Try.ntmps46
    go_wp2_with (go_at_call 59; refine (ref_TheNaN _).mono ?_; rintro e w' ⟨rfl, rfl⟩)
    go_ret
    exact ⟨by simp [canon, isNaN, hb], rfl⟩

theorem law_exact (a b : Nat) (w : World) : Calls Try.prog 11 #[.float .f32 a, .float .f32 b] w fun e w' => e = .returned (.bool (a == b)) ∧ w = w' := by
  go_enter Try.func11, Try.ntmps11
  go_wp2
  go_ret
  exact ⟨ret_bool (natCast_beq _ _), rfl⟩

theorem law_landed (w : World) : Calls Try.prog 4 #[] w fun e w' => e = .returned (.bool true) ∧ w = w' := by
  go_enter Try.func4, Try.ntmps4
  go_wp2_with (go_at_call 14; refine (num_Bits _ _).mono ?_; rintro e w' ⟨rfl, rfl⟩)
  go_ret
  exact ⟨ret_bool (by decide), rfl⟩

end Go.Proofs.Ytlfcedecobebmaa
