/- frame.each, for whatever closure. -/
import Derived.Test.YtccbhghpghijiaaEach
import Derived.Test.YtccbhghpghijiaaCln
namespace Go.Proofs.Ytccbhghpghijiaa
open Go.RowKit

/-- A closure that gives single k. -/
structure Gives (W : World) (cf : FuncId) (cap : Array Value) (N : Nat) (V : Nat → Nat) : Prop where
  enter : ∀ (args : Array Value) (u : World), (callFunc cf args).run Try.prog u = .ok (.enter cf args) u
  gives : ∀ (k : Nat) (u : World), k < N → Below W.heap.size W u → Calls Try.prog cf (#[.int .i64 (k : Int)] ++ cap) u fun e u' => e = .returned (.float .f32 (V k)) ∧ Below u.heap.size u u'

end Go.Proofs.Ytccbhghpghijiaa
