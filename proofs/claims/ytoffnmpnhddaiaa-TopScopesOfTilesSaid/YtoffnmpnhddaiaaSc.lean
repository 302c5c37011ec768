/- The scalar functions of num and of the references, walked: each gives the value of its Lean function. -/
import Derived.Test.YtoffnmpnhddaiaaProg
import Derived.Test.YtoffnmpnhddaiaaFl
namespace Go.Proofs.Ytoffnmpnhddaiaa
open Go.RowKit

@[go_sem] theorem run_frombits (n : Int) (w : World) : (callFunc 150 #[.int .u32 n]).run Try.prog w = .ok (.value (.float .f32 n.toNat)) w := by
  rw [run_callFunc_extern Try.func150 (by kernel_rfl) (by kernel_rfl) (by kernel_rfl) (e := Extern.MathFloatBits.float32frombits) (by kernel_rfl)]; rfl
@[go_sem] theorem run_tobits (b : Nat) (w : World) : (callFunc 86 #[.float .f32 b]).run Try.prog w = .ok (.value (.int .u32 b)) w := by
  rw [run_callFunc_extern Try.func86 (by kernel_rfl) (by kernel_rfl) (by kernel_rfl) (e := Extern.MathFloatBits.float32bits) (by kernel_rfl)]; rfl

set_option maxRecDepth 100000 in
theorem num_Clean (b : Nat) (w : World) : Calls Try.prog 88 #[.float .f32 b] w fun e w' => e = .returned (.float .f32 (canon b)) ∧ w = w' := by
  cases hb : (FloatKind.f32.format.order b b != some .eq)
  · go_enter Try.func88, Try.ntmps88
    go_wp2
    go_ret
    exact ⟨by simp [canon, isNaN, hb], rfl⟩
  · go_enter Try.func88, Try.ntmps88
    go_wp2
    go_ret
    exact ⟨by simp [canon, isNaN, hb, theNaN], rfl⟩

theorem num_Bits (b : Nat) (w : World) : Calls Try.prog 81 #[.float .f32 b] w fun e w' => e = .returned (.int .u32 (canon b)) ∧ w = w' := by
  go_enter Try.func81, Try.ntmps81
  go_wp2_with (go_at_call 88; refine (num_Clean _ _).mono ?_; rintro e w' ⟨rfl, rfl⟩)
  go_ret
  exact ⟨rfl, rfl⟩

theorem ref_TheNaN (w : World) : Calls Try.prog 132 #[] w fun e w' => e = .returned (.float .f32 theNaN) ∧ w = w' := by
  go_enter Try.func132, Try.ntmps132
  go_wp2
  go_ret
  exact ⟨rfl, rfl⟩

set_option maxRecDepth 100000 in
theorem ref_Fix (b : Nat) (w : World) : Calls Try.prog 65 #[.float .f32 b] w fun e w' => e = .returned (.float .f32 (canon b)) ∧ w = w' := by
  cases hb : (FloatKind.f32.format.order b b != some .eq)
  · go_enter Try.func65, Try.ntmps65
    go_wp2
    go_ret
    exact ⟨by simp [canon, isNaN, hb], rfl⟩
  · go_enter Try.func65, Try.ntmps65
    go_wp2_with (go_at_call 132; refine (ref_TheNaN _).mono ?_; rintro e w' ⟨rfl, rfl⟩)
    go_ret
    exact ⟨by simp [canon, isNaN, hb], rfl⟩

theorem ref_BitsOf (b : Nat) (w : World) : Calls Try.prog 83 #[.float .f32 b] w fun e w' => e = .returned (.int .u32 (canon b)) ∧ w = w' := by
  go_enter Try.func83, Try.ntmps83
  go_wp2_with (go_at_call 65; refine (ref_Fix _ _).mono ?_; rintro e w' ⟨rfl, rfl⟩)
  go_ret
  exact ⟨rfl, rfl⟩

theorem ref_Bit (a b : Nat) (w : World) : Calls Try.prog 20 #[.float .f32 a, .float .f32 b] w fun e w' => e = .returned (.bool (canon a == canon b)) ∧ w = w' := by
  go_enter Try.func20, Try.ntmps20
  go_wp2_with (go_at_call 83; refine (ref_BitsOf _ _).mono ?_; rintro e w' ⟨rfl, rfl⟩)
  go_ret
  exact ⟨ret_bool (natCast_beq _ _), rfl⟩

theorem law_exact (a b : Nat) (w : World) : Calls Try.prog 24 #[.float .f32 a, .float .f32 b] w fun e w' => e = .returned (.bool (a == b)) ∧ w = w' := by
  go_enter Try.func24, Try.ntmps24
  go_wp2
  go_ret
  exact ⟨ret_bool (natCast_beq _ _), rfl⟩

theorem law_landed (w : World) : Calls Try.prog 15 #[] w fun e w' => e = .returned (.bool true) ∧ w = w' := by
  go_enter Try.func15, Try.ntmps15
  go_wp2_with (go_at_call 81; refine (num_Bits _ _).mono ?_; rintro e w' ⟨rfl, rfl⟩)
  go_ret
  exact ⟨ret_bool (by decide), rfl⟩

end Go.Proofs.Ytoffnmpnhddaiaa
