/- Lerp: the program's and the reference's. -/
import Derived.Test.YticekgnmiaidjaaGreatDoorMem
namespace Go.Proofs.YticekgnmiaidjaaGreatDoor
open Go.RowKit

/-- Lerp, behind Clean. -/
def lerpV (a b t : Nat) : Nat := if (FloatKind.f32.format.order t 0 == some .eq) = true then canon a else if (FloatKind.f32.format.order t 1065353216 == some .eq) = true then canon b else fop .add a (fop .mul (fop .sub b a) t)
theorem canon_lerpV (a b t : Nat) : canon (lerpV a b t) = lerpV a b t := by
  unfold lerpV
  split
  · exact canon_idem _
  · split
    · exact canon_idem _
    · exact canon_fop _ _ _

end Go.Proofs.YticekgnmiaidjaaGreatDoor
