/- Regions: the reference's check, growing, the common part. -/
import Derived.Test.YtlfcedecobebmaaMem
namespace Go.Proofs.Ytlfcedecobebmaa
open Go.RowKit

theorem checkRegion_zero {x y w h : Int} (hc : checkRegion x y w h = 0) : 1 ≤ w ∧ w ≤ 256 ∧ 1 ≤ h ∧ h ≤ 256 ∧ w * h ≤ 16384 ∧ -1048576 ≤ x ∧ x ≤ 1048576 - w ∧ -1048576 ≤ y ∧ y ≤ 1048576 - h := by
  unfold checkRegion at hc
  split at hc
  · omega
  · split at hc
    · omega
    · split at hc
      · omega
      · simp [outB] at *
        omega

/-- Four integers as a region's value. -/
def rgV (r : Int × Int × Int × Int) : Value := .agg #[.int .i64 r.1, .int .i64 r.2.1, .int .i64 r.2.2.1, .int .i64 r.2.2.2]
def rg0 : Int × Int × Int × Int := (0, 0, 0, 0)

/-- What growing answers. -/
def growOf (x y w h n : Int) : (Int × Int × Int × Int) × Int :=
  if checkRegion x y w h = 0 then
    if n < -256 ∨ 256 < n then (rg0, 3)
    else if checkRegion (x - n) (y - n) (w + 2 * n) (h + 2 * n) = 0 then ((x - n, y - n, w + 2 * n, h + 2 * n), 0)
    else (rg0, checkRegion (x - n) (y - n) (w + 2 * n) (h + 2 * n))
  else (rg0, checkRegion x y w h)

theorem name_callw {P : Program} {f : FuncId} {args : Array Value} {w0 : World} {Q : Ending → World → Prop} (h : ∀ wb, wb = w0 → Calls P f args wb Q) : Calls P f args w0 Q := h _ rfl

end Go.Proofs.Ytlfcedecobebmaa
