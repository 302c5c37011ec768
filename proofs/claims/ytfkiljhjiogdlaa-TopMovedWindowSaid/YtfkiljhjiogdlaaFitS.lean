/- dyetop's own 'small' and 'landed' (as dyelaw1's 'fit' and 'landed'). -/
import Derived.Test.YtfkiljhjiogdlaaFit
namespace Go.Proofs.Ytfkiljhjiogdlaa
open Go.RowKit

theorem top_landed (w : World) : Calls Try.prog 6 #[] w fun e w' => e = .returned (.bool true) ∧ w = w' := by
  go_enter Try.func6, Try.ntmps6
  go_wp2_with (go_at_call 25; refine (num_Bits _ _).mono ?_; rintro e w' ⟨rfl, rfl⟩)
  go_ret
  exact ⟨ret_bool (by decide), rfl⟩

end Go.Proofs.Ytfkiljhjiogdlaa
