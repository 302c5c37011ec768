/- All of several singles are numbers: the program's and the reference's answer. -/
import Derived.Test.YtlfcedecobebmaaNum
namespace Go.Proofs.Ytlfcedecobebmaa
open Go.RowKit

theorem all_take (p : Nat → Bool) (xs : List Nat) (k : Nat) (h : k < xs.length) : (xs.take (k + 1)).all p = ((xs.take k).all p && p (xs.getD k 0)) := by
  rw [List.take_succ_eq_append_getElem h, List.all_append]
  simp [h]
theorem all_not (p : Nat → Bool) (xs : List Nat) (k : Nat) (h : k < xs.length) (hp : p (xs.getD k 0) = false) : xs.all p = false := by
  rw [List.all_eq_false]
  exact ⟨xs.getD k 0, by simp [h], fun e => by rw [hp] at e; cases e⟩

end Go.Proofs.Ytlfcedecobebmaa
