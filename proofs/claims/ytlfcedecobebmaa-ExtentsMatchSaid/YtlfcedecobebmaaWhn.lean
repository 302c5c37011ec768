/- dyeref2.When. -/
import Derived.Test.YtlfcedecobebmaaMem
import Derived.RegionTactic
namespace Go.Proofs.Ytlfcedecobebmaa
open Go.RowKit

def whenV (b : Bool) (n : Int) : Int := if b then n else 0
def firstV (a b : Int) : Int := if a = 0 then b else a
theorem ref_When (b : Bool) (n : Int) (W : World) : Calls Try.prog 29 #[.bool b, .int .i64 n] W fun e w' => e = .returned (.int .i64 (whenV b n)) ∧ W = w' := by
  cases b
  all_goals
    go_enter Try.func29, Try.ntmps29
    go_wp2
    go_ret
    exact ⟨rfl, rfl⟩
end Go.Proofs.Ytlfcedecobebmaa
