/- conform.far, conform.long, conform.Slip$1. -/
import Derived.Test.YteebkfdocdmboaaDoorEvt
namespace Go.Proofs.YteebkfdocdmboaaDoor
open Go.RowKit

set_option maxRecDepth 100000 in
set_option maxHeartbeats 2000000 in
theorem conform_long (s : ByteArray) (k l i o p : Int) (W : World) (h1 : 0 ≤ i) (h2 : i < o) (h3 : o ≤ 16777216) :
    Calls Tryd.prog 25 #[.agg #[.string s, .int .i64 k, .int .i64 l, .int .i64 i, .int .i64 o, .int .i64 p]] W fun e w' => e = .returned (.int .i64 (o - i)) ∧ Below W.heap.size W w' := by
  go_enter Tryd.func25, Tryd.ntmps25
  go_wp2_with fail
  go_ret
  exact ⟨rfl, bnew (Below.refl _ W)⟩

end Go.Proofs.YteebkfdocdmboaaDoor
