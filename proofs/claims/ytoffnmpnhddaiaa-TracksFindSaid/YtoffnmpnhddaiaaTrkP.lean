/- The picture of TracksFind: its singles, and the gap at each offset, as closed numbers. -/
import Derived.Test.YtoffnmpnhddaiaaTrkA
namespace Go.Proofs.Ytoffnmpnhddaiaa
open Go.RowKit

/-- Single i of the picture. -/
def patW (i : Nat) : Nat := (floatBits .add .f32 (floatOfInt .f32 (((i * i * 7 + i * 13) % 251 : Nat) : Int)) (floatOfInt .f32 (i : Int))).getD 0
theorem pat_some0 : ∀ i : Fin 324, floatBits .add .f32 (floatOfInt .f32 (((i.val * i.val * 7 + i.val * 13) % 251 : Nat) : Int)) (floatOfInt .f32 (i.val : Int)) = some (patW i.val) := by decide +kernel
theorem pat_some (i : Nat) (h : i < 324) : floatBits .add .f32 (floatOfInt .f32 (((i * i * 7 + i * 13) % 251 : Nat) : Int)) (floatOfInt .f32 (i : Int)) = some (patW i) := pat_some0 ⟨i, h⟩
def pat : List Nat := (List.range 324).map patW
theorem pat_len : pat.length = 324 := by simp [pat]
theorem pat_getD (k : Nat) (h : k < 324) : pat.getD k 0 = patW k := by simp [pat, h]

/-- Gap n of the 27, the window tried at px, py. -/
def patG (px py n : Nat) : Nat := (gapB (patW (4 * ((3 + n / 9) * 9 + (3 + n / 3 % 3)) + n % 3)) (patW (4 * ((py + n / 9) * 9 + (px + n / 3 % 3)) + n % 3))).getD 0
theorem patG_some0 : ∀ (px py : Fin 7) (n : Fin 27), gapB (patW (4 * ((3 + n.val / 9) * 9 + (3 + n.val / 3 % 3)) + n.val % 3)) (patW (4 * ((py.val + n.val / 9) * 9 + (px.val + n.val / 3 % 3)) + n.val % 3)) = some (patG px.val py.val n.val) := by decide +kernel
theorem patG_some (px py j i c : Nat) (h1 : px ≤ 6) (h2 : py ≤ 6) (hj : j < 3) (hi : i < 3) (hc : c < 3) :
    gapB (pat.getD (4 * ((3 + j) * 9 + (3 + i)) + c) 0) (pat.getD (4 * ((py + j) * 9 + (px + i)) + c) 0) = some (patG px py (3 * (3 * j + i) + c)) := by
  rw [pat_getD _ (by omega), pat_getD _ (by omega)]
  have h := patG_some0 ⟨px, by omega⟩ ⟨py, by omega⟩ ⟨3 * (3 * j + i) + c, by omega⟩
  simp only [show (3 * (3 * j + i) + c) / 9 = j by omega, show (3 * (3 * j + i) + c) / 3 % 3 = i by omega, show (3 * (3 * j + i) + c) % 3 = c by omega] at h
  exact h

/-- The gap there. -/
def score (px py : Nat) : Nat := fop .quo (sumC 27 ((List.range 27).map (patG px py))) (floatOfInt .f32 27)
theorem score_here : score 3 3 = 0 := by decide +kernel
/-- Greater than nought, and no NaN. -/
def posW (s : Nat) : Bool := (FloatKind.f32.format.order s s == some .eq) && (FloatKind.f32.format.order 0 s == some .lt) && (FloatKind.f32.format.order s 0 == some .gt)
theorem score_pos0 : ∀ px py : Fin 7, (px.val = 3 ∧ py.val = 3) ∨ posW (score px.val py.val) = true := by decide +kernel
theorem score_pos (px py : Nat) (h1 : px ≤ 6) (h2 : py ≤ 6) (h : ¬ (px = 3 ∧ py = 3)) : posW (score px py) = true := by
  rcases score_pos0 ⟨px, by omega⟩ ⟨py, by omega⟩ with h' | h'
  · exact absurd h' h
  · exact h'
end Go.Proofs.Ytoffnmpnhddaiaa
