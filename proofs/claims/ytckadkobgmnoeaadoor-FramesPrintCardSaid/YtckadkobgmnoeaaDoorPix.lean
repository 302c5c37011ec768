/- PixelAt and Inside of the references, walked. -/
import Derived.Test.YtckadkobgmnoeaaDoorMem
import Derived.BigGuardPart
namespace Go.Proofs.YtckadkobgmnoeaaDoor
open Go.RowKit

/-- Where PixelAt looks. -/
def clampTo (lo n v : Int) : Int := imin (imax v lo) (lo + n - 1)
theorem clampTo_bd (lo n v : Int) (hn : 1 ≤ n) : lo ≤ clampTo lo n v ∧ clampTo lo n v ≤ lo + n - 1 := by
  have h1 := imax_spec v lo
  have h2 := imin_spec (imax v lo) (lo + n - 1)
  unfold clampTo; omega
theorem clampTo_in (lo n v : Int) (h1 : lo ≤ v) (h2 : v ≤ lo + n - 1) : clampTo lo n v = v := by
  have h3 := imax_spec v lo
  have h4 := imin_spec (imax v lo) (lo + n - 1)
  unfold clampTo; omega
/-- The number of the pixel. -/
def pixNo (x y w h u v : Int) : Nat := ((clampTo y h v - y) * w + clampTo x w u - x).toNat

theorem pix_bd (x y w h u v : Int) (hw : 1 ≤ w) (hh : 1 ≤ h) (hw2 : w ≤ 256) (hh2 : h ≤ 256) :
    ((pixNo x y w h u v : Nat) : Int) = (clampTo y h v - y) * w + clampTo x w u - x ∧ ((pixNo x y w h u v : Nat) : Int) < w * h ∧ 0 ≤ (clampTo y h v - y) * w ∧ (clampTo y h v - y) * w ≤ 65536 := by
  have h1 := clampTo_bd x w u hw
  have h2 := clampTo_bd y h v hh
  have e1 : 0 ≤ (clampTo y h v - y) * w := Int.mul_nonneg (by omega) (by omega)
  have e2 : (clampTo y h v - y) * w ≤ (h - 1) * w := Int.mul_le_mul_of_nonneg_right (by omega) (by omega)
  have e3 : (h - 1) * w = w * h - w := by rw [Int.sub_mul, Int.mul_comm h w]; omega
  have e4 := mul_bd w h hw hw2 hh hh2
  unfold pixNo
  omega

/-- The pixel with a number. -/
def pixV (xs : List Nat) (p : Nat) : Value := .agg #[.float .f32 (xs.getD (4 * p) 0), .float .f32 (xs.getD (4 * p + 1) 0), .float .f32 (xs.getD (4 * p + 2) 0), .float .f32 (xs.getD (4 * p + 3) 0)]

set_option maxRecDepth 100000 in
set_option maxHeartbeats 400000 in
theorem ref_PixelAt (x y w h u v : Int) (b o n c : Nat) (xs : List Nat) (W : World) (hx1 : -10000000 ≤ x) (hx2 : x ≤ 10000000) (hy1 : -10000000 ≤ y) (hy2 : y ≤ 10000000) (hw1 : 1 ≤ w) (hw2 : w ≤ 256) (hh1 : 1 ≤ h) (hh2 : h ≤ 256)
    (hn : (n : Int) = 4 * w * h) (hnc : n ≤ c) (hxs : xs.length = n) (hrd : Rd W b o xs) :
    Calls Tryd.prog 40 #[.agg #[.int .i64 x, .int .i64 y, .int .i64 w, .int .i64 h, .slice (some ⟨b, o, none⟩) n c], .int .i64 u, .int .i64 v] W fun e w' =>
      e = .returned (pixV xs (pixNo x y w h u v)) ∧ Below W.heap.size W w' := by
  obtain ⟨p1, p2, p3, p4⟩ := pix_bd x y w h u v hw1 hh1 hw2 hh2
  have k1 := clampTo_bd x w u hw1
  have k2 := clampTo_bd y h v hh1
  have hcx : imin (imax u x) (x + w - 1) = clampTo x w u := rfl
  have hcy : imin (imax v y) (y + h - 1) = clampTo y h v := rfl
  generalize clampTo x w u = cx at *
  generalize clampTo y h v = cy at *
  generalize pixNo x y w h u v = p at *
  obtain ⟨q, hq⟩ : ∃ q : Nat, (cy - y) * w = (q : Int) := ⟨((cy - y) * w).toNat, by omega⟩
  have hmul : wrap64 ((cy - y) * w) = (q : Int) := by rw [hq]; exact IntWalk.wrap64_in _ ⟨by omega, by omega⟩
  have hix : (q : Int) + cx - x = (p : Int) := by omega
  have hq2 : q ≤ 65536 := by omega
  have hw4 : 4 * w * h = 4 * (w * h) := Int.mul_assoc 4 w h
  have hpn : 4 * p + 3 < n := by omega
  have e0 := hrd.cell (4 * p) (by omega)
  have e1 : W.cell? ⟨b, o + 4 * p + 1, none⟩ = _ := (Nat.add_assoc o (4 * p) 1) ▸ hrd.cell (4 * p + 1) (by omega)
  have e2 : W.cell? ⟨b, o + 4 * p + 2, none⟩ = _ := (Nat.add_assoc o (4 * p) 2) ▸ hrd.cell (4 * p + 2) (by omega)
  have e3 : W.cell? ⟨b, o + 4 * p + 3, none⟩ = _ := (Nat.add_assoc o (4 * p) 3) ▸ hrd.cell (4 * p + 3) (by omega)
  have hb := hrd.lt
  have hbn : ¬ b = W.heap.size := by omega
  have Hp := Lib.hid p1
  have hp3 : (p : Int) < 65536 := by have := mul_bd w h hw1 hw2 hh1 hh2; omega
  clear p1 hw4 hn hxs hq p2 p3 p4
  go_enter Tryd.func40, Tryd.ntmps40
  go_wp2_with fail
  refine bodyPost_ret (v := pixV xs p) (by simp [results, Tryd.results40, go_sem, pixV]) rfl ⟨rfl, bnew (bnew (Below.refl _ W))⟩

/-- All pixels of a are pixels of b. -/
def inB (ax ay aw ah bx b_y bw bh : Int) : Bool := decide (bx ≤ ax) && decide (b_y ≤ ay) && decide (ax + aw ≤ bx + bw) && decide (ay + ah ≤ b_y + bh)

end Go.Proofs.YtckadkobgmnoeaaDoor
