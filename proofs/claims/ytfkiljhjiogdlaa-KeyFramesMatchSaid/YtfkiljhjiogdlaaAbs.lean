/- num.Abs, walked: out to a double, the sign struck, back, Clean. -/
import Derived.Test.YtfkiljhjiogdlaaSc
namespace Go.Proofs.Ytfkiljhjiogdlaa
open Go.RowKit

@[go_sem] theorem run_frombits64 (n : Int) (w : World) : (callFunc 110 #[.int .u64 n]).run Try.prog w = .ok (.value (.float .f64 n.toNat)) w := by
  rw [run_callFunc_extern Try.func110 (by kernel_rfl) (by kernel_rfl) (by kernel_rfl) (e := Extern.MathFloatBits.float64frombits) (by kernel_rfl)]; rfl
@[go_sem] theorem run_tobits64 (b : Nat) (w : World) : (callFunc 111 #[.float .f64 b]).run Try.prog w = .ok (.value (.int .u64 b)) w := by
  rw [run_callFunc_extern Try.func111 (by kernel_rfl) (by kernel_rfl) (by kernel_rfl) (e := Extern.MathFloatBits.float64bits) (by kernel_rfl)]; rfl

theorem math_Abs (b : Nat) (w : World) : Calls Try.prog 102 #[.float .f64 b] w fun e w' => e = .returned (.float .f64 (bits .andNot .u64 b 9223372036854775808).toNat) ∧ w = w' := by
  go_enter Try.func102, Try.ntmps102
  go_wp2
  go_ret
  exact ⟨rfl, rfl⟩

set_option maxRecDepth 100000 in
theorem num_Abs (b r1 r3 : Nat) (w : World) (h1 : floatToFloatBits .f32 b .f64 = some r1) (h3 : floatToFloatBits .f64 (bits .andNot .u64 r1 9223372036854775808).toNat .f32 = some r3) :
    Calls Try.prog 74 #[.float .f32 b] w fun e w' => e = .returned (.float .f32 (canon r3)) ∧ w = w' := by
  have c1 := fun w => run_convert_float_float (P := Try.prog) w 22 109 .f32 .f64 b r1 (by kernel_rfl) Try.underlying109 h1
  have c3 := fun w => run_convert_float_float (P := Try.prog) w 109 22 .f64 .f32 _ r3 (by kernel_rfl) Try.underlying22 h3
  go_enter Try.func74, Try.ntmps74
  go_wp2_with (first | (go_at_call 102; refine (math_Abs _ _).mono ?_; rintro e w' ⟨rfl, rfl⟩) | (go_at_call 59; refine (num_Clean _ _).mono ?_; rintro e w' ⟨rfl, rfl⟩))
  go_ret
  exact ⟨rfl, rfl⟩

end Go.Proofs.Ytfkiljhjiogdlaa
