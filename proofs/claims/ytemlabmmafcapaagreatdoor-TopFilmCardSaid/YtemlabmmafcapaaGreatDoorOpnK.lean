/- A slice's length is at most its capacity: of a frame and of singles that came in. -/
import Derived.Test.YtemlabmmafcapaaGreatDoorOpn2
import Derived.OpenShut
namespace Go.Proofs.YtemlabmmafcapaaGreatDoor
open Go.RowKit Go.ChangeShapes Go.WideShapes Go.Deep
theorem sl_max {w : World} {a : Option Addr} {n c : Nat} {xs : List Nat} (h : Sl w (.slice a n c) xs) (hl : xs.length ≤ maxLen) : n ≤ maxLen := by
  rcases h with ⟨b, o, k, h1, _, _⟩ | ⟨_, _, _, h1⟩
  · simp only [Value.slice.injEq] at h1; omega
  · simp only [Value.slice.injEq] at h1; omega
section
variable {H : Type} {enc : TypeId × Value → H} {w : World} {base : Nat} {held : Bool} {d : DataW H} {p : List MemPlace}

end
end Go.Proofs.YtemlabmmafcapaaGreatDoor
