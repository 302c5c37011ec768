/- dyeref1.Clean: the frame of a frame's own pixels. -/
import Derived.Test.YtlfcedecobebmaaMade
import Derived.Test.YtlfcedecobebmaaPix
import Derived.Test.YtlfcedecobebmaaTail
import Derived.Laws.EntriesVeiled
namespace Go.Proofs.Ytlfcedecobebmaa
open Go.RowKit

theorem call_enter {P : Program} {f : FuncId} {fn : Func} (hf : P.funcs[f]? = some fn) (hn : (fn.name == "runtime.NumGoroutine") = false) (hb : fn.body.isNone = false) (args : Array Value) (w : World) : (callFunc f args).run P w = .ok (.enter f args) w := by
  have h1 : fn.name ≠ "runtime.NumGoroutine" := by simpa using hn
  have h2 : ¬ fn.body = none := by intro e; rw [e] at hb; cases hb
  simp [callFunc, hf, h1, h2]

theorem pixNo_at (x y : Int) (w h i j : Nat) (hi : i < w) (hj : j < h) : pixNo x y w h (x + (i : Int)) (y + (j : Int)) = j * w + i := by
  unfold pixNo
  rw [clampTo_in x w _ (by omega) (by omega), clampTo_in y h _ (by omega) (by omega)]
  have e : (y + (j : Int) - y) * (w : Int) + (x + (i : Int)) - x = ((j * w + i : Nat) : Int) := by
    rw [show y + (j : Int) - y = (j : Int) by omega]
    push_cast
    omega
  rw [e]
  rfl

end Go.Proofs.Ytlfcedecobebmaa
