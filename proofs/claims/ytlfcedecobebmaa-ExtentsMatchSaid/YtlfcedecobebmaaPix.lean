/- PixelAt and Inside of the references, walked. -/
import Derived.Test.YtlfcedecobebmaaMem
import Derived.BigGuardPart
namespace Go.Proofs.Ytlfcedecobebmaa
open Go.RowKit

/-- Where PixelAt looks. -/
def clampTo (lo n v : Int) : Int := imin (imax v lo) (lo + n - 1)
theorem clampTo_bd (lo n v : Int) (hn : 1 ≤ n) : lo ≤ clampTo lo n v ∧ clampTo lo n v ≤ lo + n - 1 := by
  have h1 := imax_spec v lo
  have h2 := imin_spec (imax v lo) (lo + n - 1)
  unfold clampTo; omega
theorem clampTo_in (lo n v : Int) (h1 : lo ≤ v) (h2 : v ≤ lo + n - 1) : clampTo lo n v = v := by
  have h3 := imax_spec v lo
  have h4 := imin_spec (imax v lo) (lo + n - 1)
  unfold clampTo; omega
/-- The number of the pixel. -/
def pixNo (x y w h u v : Int) : Nat := ((clampTo y h v - y) * w + clampTo x w u - x).toNat

theorem pix_bd (x y w h u v : Int) (hw : 1 ≤ w) (hh : 1 ≤ h) (hw2 : w ≤ 256) (hh2 : h ≤ 256) :
    ((pixNo x y w h u v : Nat) : Int) = (clampTo y h v - y) * w + clampTo x w u - x ∧ ((pixNo x y w h u v : Nat) : Int) < w * h ∧ 0 ≤ (clampTo y h v - y) * w ∧ (clampTo y h v - y) * w ≤ 65536 := by
  have h1 := clampTo_bd x w u hw
  have h2 := clampTo_bd y h v hh
  have e1 : 0 ≤ (clampTo y h v - y) * w := Int.mul_nonneg (by omega) (by omega)
  have e2 : (clampTo y h v - y) * w ≤ (h - 1) * w := Int.mul_le_mul_of_nonneg_right (by omega) (by omega)
  have e3 : (h - 1) * w = w * h - w := by rw [Int.sub_mul, Int.mul_comm h w]; omega
  have e4 := mul_bd w h hw hw2 hh hh2
  unfold pixNo
  omega

/-- The pixel with a number. -/
def pixV (xs : List Nat) (p : Nat) : Value := .agg #[.float .f32 (xs.getD (4 * p) 0), .float .f32 (xs.getD (4 * p + 1) 0), .float .f32 (xs.getD (4 * p + 2) 0), .float .f32 (xs.getD (4 * p + 3) 0)]

/-- All pixels of a are pixels of b. -/
def inB (ax ay aw ah bx b_y bw bh : Int) : Bool := decide (bx ≤ ax) && decide (b_y ≤ ay) && decide (ax + aw ≤ bx + bw) && decide (ay + ah ≤ b_y + bh)

end Go.Proofs.Ytlfcedecobebmaa
