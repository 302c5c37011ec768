/- Regions: the checks of the program and of the references, walked. -/
import Derived.Test.YtemlabmmafcapaaGreatDoorSc
import Derived.BigGuardPart
namespace Go.Proofs.YtemlabmmafcapaaGreatDoor
open Go.RowKit

def outB (a s : Int) : Bool := decide (a < -1048576) || decide (1048576 - s < a)

def checkRegion (x y w h : Int) : Int :=
  if w < 1 ∨ 256 < w ∨ h < 1 ∨ 256 < h then 3
  else if 16384 < w * h then 4
  else if outB x w || outB y h then 5 else 0

theorem mul_bd (w h : Int) (a : 1 ≤ w) (b : w ≤ 256) (c : 1 ≤ h) (d : h ≤ 256) : 1 ≤ w * h ∧ w * h ≤ 65536 := by
  have h1 : 1 * 1 ≤ w * h := Int.mul_le_mul a c (by omega) (by omega)
  have h2 : w * h ≤ 256 * 256 := Int.mul_le_mul b d (by omega) (by omega)
  omega
theorem wrap_mul (w h : Int) (a : 1 ≤ w) (b : w ≤ 256) (c : 1 ≤ h) (d : h ≤ 256) : wrap64 (w * h) = w * h := by
  have := mul_bd w h a b c d
  exact IntWalk.wrap64_in _ ⟨by omega, by omega⟩

end Go.Proofs.YtemlabmmafcapaaGreatDoor
