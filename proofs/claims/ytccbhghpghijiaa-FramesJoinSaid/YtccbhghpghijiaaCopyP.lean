/- Copying a part of one frame's singles into another's: plain facts. No program in sight. -/
import Derived.Test.YtccbhghpghijiaaRgc
namespace Go.Proofs.Ytccbhghpghijiaa
open Go.RowKit

/-- Where two regions meet: in the first one's places (i0, j0), in the second one's (i1, j1), cw by ch. -/
structure Meet (x y : Int) (w h : Nat) (x2 y2 : Int) (w2 h2 i0 j0 i1 j1 cw ch : Nat) : Prop where
  ex : x + i0 = x2 + i1
  ey : y + j0 = y2 + j1
  a : i0 + cw ≤ w
  b : j0 + ch ≤ h
  c : i1 + cw ≤ w2
  d : j1 + ch ≤ h2
  cw1 : 0 < cw
  ch1 : 0 < ch
  l : i0 = 0 ∨ i1 = 0
  t : j0 = 0 ∨ j1 = 0
  r : i0 + cw = w ∨ i1 + cw = w2
  u : j0 + ch = h ∨ j1 + ch = h2

theorem common_meet (x y : Int) (w h : Nat) (x2 y2 : Int) (w2 h2 : Nat) (hw : 0 < w) (hh : 0 < h) (hw2 : 0 < w2) (hh2 : 0 < h2) :
    (∃ i0 j0 i1 j1 cw ch : Nat, Meet x y w h x2 y2 w2 h2 i0 j0 i1 j1 cw ch ∧ commonOf x y w h x2 y2 w2 h2 = ((x + i0, y + j0, (cw : Int), (ch : Int)), true)) ∨
      (commonOf x y w h x2 y2 w2 h2 = ((0, 0, 0, 0), false) ∧ ((x + w ≤ x2 ∨ x2 + w2 ≤ x) ∨ (y + h ≤ y2 ∨ y2 + h2 ≤ y))) := by
  have m1 := imax_spec x x2
  have m2 := imax_spec y y2
  have m3 := imin_spec (x + w) (x2 + w2)
  have m4 := imin_spec (y + h) (y2 + h2)
  unfold commonOf
  generalize imax x x2 = mx at *
  generalize imax y y2 = my at *
  generalize imin (x + w) (x2 + w2) = nx at *
  generalize imin (y + h) (y2 + h2) = ny at *
  by_cases hc : nx - mx < 1 ∨ ny - my < 1
  · right
    rw [if_pos hc]
    exact ⟨rfl, by omega⟩
  · left
    rw [if_neg hc]
    refine ⟨(mx - x).toNat, (my - y).toNat, (mx - x2).toNat, (my - y2).toNat, (nx - mx).toNat, (ny - my).toNat, ⟨by omega, by omega, by omega, by omega, by omega, by omega, by omega, by omega, by omega, by omega, by omega, by omega⟩, ?_⟩
    congr
    all_goals omega

/-- After r rows and s singles of the next one: what has been copied. -/
def copyL (zs xs : List Nat) (w h w2 i0 j0 i1 j1 cw ch r s : Nat) : List Nat := (List.range (4 * (w * h))).map fun k =>
  if (j0 ≤ k / 4 / w ∧ i0 ≤ k / 4 % w ∧ k / 4 % w < i0 + cw) ∧ (k / 4 / w < j0 + r ∨ (k / 4 / w = j0 + r ∧ 4 * (k / 4 % w - i0) + k % 4 < s)) then
    canon (xs.getD (4 * ((j1 + (k / 4 / w - j0)) * w2 + i1 + (k / 4 % w - i0)) + k % 4) 0) else zs.getD k 0
theorem copyL_len (zs xs : List Nat) (w h w2 i0 j0 i1 j1 cw ch r s : Nat) : (copyL zs xs w h w2 i0 j0 i1 j1 cw ch r s).length = 4 * (w * h) := by simp [copyL]
theorem copyL_zero (zs xs : List Nat) (w h w2 i0 j0 i1 j1 cw ch : Nat) (hz : zs.length = 4 * (w * h)) : copyL zs xs w h w2 i0 j0 i1 j1 cw ch 0 0 = zs := by
  apply List.ext_getElem
  · rw [copyL_len, hz]
  · intro k h1 h2
    simp only [copyL, List.getElem_map, List.getElem_range]
    rw [if_neg (by omega)]
    simp [h2]
theorem copyL_row (zs xs : List Nat) (w h w2 i0 j0 i1 j1 cw ch r : Nat) : copyL zs xs w h w2 i0 j0 i1 j1 cw ch r (4 * cw) = copyL zs xs w h w2 i0 j0 i1 j1 cw ch (r + 1) 0 := by
  unfold copyL
  apply List.map_congr_left
  intro k _
  have e : ((j0 ≤ k / 4 / w ∧ i0 ≤ k / 4 % w ∧ k / 4 % w < i0 + cw) ∧ (k / 4 / w < j0 + r ∨ (k / 4 / w = j0 + r ∧ 4 * (k / 4 % w - i0) + k % 4 < 4 * cw))) ↔ ((j0 ≤ k / 4 / w ∧ i0 ≤ k / 4 % w ∧ k / 4 % w < i0 + cw) ∧ (k / 4 / w < j0 + (r + 1) ∨ (k / 4 / w = j0 + (r + 1) ∧ 4 * (k / 4 % w - i0) + k % 4 < 0))) := by
    generalize k / 4 / w = j
    generalize k / 4 % w = i
    have := Nat.mod_lt k (show 0 < 4 by omega)
    omega
  simp only [e]
theorem copyL_set (zs xs : List Nat) (w h w2 i0 j0 i1 j1 cw ch r s : Nat) (hi : i0 + cw ≤ w) (hs : s < 4 * cw) :
    (copyL zs xs w h w2 i0 j0 i1 j1 cw ch r s).set (4 * ((j0 + r) * w + i0) + s) (canon (xs.getD (4 * ((j1 + r) * w2 + i1) + s) 0)) = copyL zs xs w h w2 i0 j0 i1 j1 cw ch r (s + 1) := by
  apply List.ext_getElem
  · simp [copyL]
  · intro k h1 h2
    rw [List.getElem_set]
    simp only [copyL, List.getElem_map, List.getElem_range]
    have hw : 0 < w := by omega
    have d1 := Nat.div_add_mod (k / 4) w
    have d2 := Nat.div_add_mod k 4
    have d3 := Nat.mod_lt (k / 4) hw
    have d4 := Nat.mod_lt k (show 0 < 4 by omega)
    by_cases hk : 4 * ((j0 + r) * w + i0) + s = k
    · rw [if_pos hk]
      have hq : k / 4 = w * (j0 + r) + (i0 + s / 4) := by rw [← hk, Nat.mul_comm w]; omega
      have hj : k / 4 / w = j0 + r := by
        rw [hq, Nat.mul_add_div hw, Nat.div_eq_of_lt (by omega)]; rfl
      have hm : k / 4 % w = i0 + s / 4 := by
        rw [hq, Nat.mul_add_mod, Nat.mod_eq_of_lt (by omega)]
      have h4 : k % 4 = s % 4 := by rw [← hk]; omega
      rw [hj, hm, h4, if_pos (by omega)]
      congr 2
      have : j0 + r - j0 = r := by omega
      rw [this]
      omega
    · rw [if_neg hk]
      have e : ((j0 ≤ k / 4 / w ∧ i0 ≤ k / 4 % w ∧ k / 4 % w < i0 + cw) ∧ (k / 4 / w < j0 + r ∨ (k / 4 / w = j0 + r ∧ 4 * (k / 4 % w - i0) + k % 4 < s))) ↔ ((j0 ≤ k / 4 / w ∧ i0 ≤ k / 4 % w ∧ k / 4 % w < i0 + cw) ∧ (k / 4 / w < j0 + r ∨ (k / 4 / w = j0 + r ∧ 4 * (k / 4 % w - i0) + k % 4 < s + 1))) := by
        by_cases hj : k / 4 / w = j0 + r
        · rw [hj] at d1 ⊢
          rw [Nat.mul_comm w] at d1
          generalize (j0 + r) * w = A at *
          generalize k / 4 % w = i at *
          omega
        · generalize k / 4 / w = j at *
          generalize k / 4 % w = i at *
          omega
      simp only [e]
end Go.Proofs.Ytccbhghpghijiaa
