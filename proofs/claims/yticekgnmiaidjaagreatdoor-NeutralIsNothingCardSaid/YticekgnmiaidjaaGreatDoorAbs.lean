/- num.Abs, walked: out to a double, the sign struck, back, Clean. -/
import Derived.Test.YticekgnmiaidjaaGreatDoorRg
namespace Go.Proofs.YticekgnmiaidjaaGreatDoor
open Go.RowKit

@[go_sem] theorem run_frombits64 (n : Int) (w : World) : (callFunc 218 #[.int .u64 n]).run Tryz.prog w = .ok (.value (.float .f64 n.toNat)) w := by
  rw [run_callFunc_extern Tryz.func218 (by kernel_rfl) (by kernel_rfl) (by kernel_rfl) (e := Extern.MathFloatBits.float64frombits) (by kernel_rfl)]; rfl
@[go_sem] theorem run_tobits64 (b : Nat) (w : World) : (callFunc 254 #[.float .f64 b]).run Tryz.prog w = .ok (.value (.int .u64 b)) w := by
  rw [run_callFunc_extern Tryz.func254 (by kernel_rfl) (by kernel_rfl) (by kernel_rfl) (e := Extern.MathFloatBits.float64bits) (by kernel_rfl)]; rfl

theorem math_Abs (b : Nat) (w : World) : Calls Tryz.prog 262 #[.float .f64 b] w fun e w' => e = .returned (.float .f64 (bits .andNot .u64 b 9223372036854775808).toNat) ∧ w = w' := by
  go_enter Tryz.func262, Tryz.ntmps262
  go_wp2
  go_ret
  exact ⟨rfl, rfl⟩

end Go.Proofs.YticekgnmiaidjaaGreatDoor
