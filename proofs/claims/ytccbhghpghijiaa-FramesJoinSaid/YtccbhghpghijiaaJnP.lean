/- Frames joined, plain: which frame has a pixel, what goes wrong first. No program in sight. -/
import Derived.Test.YtccbhghpghijiaaChg
import Derived.Test.YtccbhghpghijiaaCopyP
import Derived.Test.YtccbhghpghijiaaMade
import Derived.Test.YtccbhghpghijiaaPix
namespace Go.Proofs.Ytccbhghpghijiaa
open Go.RowKit

/-- A frame of a list. -/
structure Fr where
  x : Int
  y : Int
  w : Int
  h : Int
  V : List Nat
  a : Option Addr
  c : Nat
instance : Inhabited Fr := ⟨⟨0, 0, 0, 0, [], none, 0⟩⟩
def Fr.err (f : Fr) : Int := checkFrame f.x f.y f.w f.h f.V.length
def covB (f : Fr) (p : Int × Int) : Bool := (decide (f.x ≤ p.1) && decide (p.1 < f.x + f.w)) && (decide (f.y ≤ p.2) && decide (p.2 < f.y + f.h))
def pixN (f : Fr) (p : Int × Int) : Nat := ((p.2 - f.y) * f.w + (p.1 - f.x)).toNat
/-- The frame among the first m that has p, and where. -/
def src (L : List Fr) (m : Nat) (p : Int × Int) : Option (Fr × Nat) := ((L.take m).find? fun f => covB f p).map fun f => (f, pixN f p)
def ptAt (f : Fr) (j i : Nat) : Int × Int := (f.x + i, f.y + j)
def cntF (L : List Fr) : Nat → Nat
  | 0 => 0
  | m + 1 => cntF L m + ((L.getD m default).w * (L.getD m default).h).toNat
def dupB (L : List Fr) (m : Nat) : Bool := (List.range (L.getD m default).h.toNat).any fun j => (List.range (L.getD m default).w.toNat).any fun i => (src L m (ptAt (L.getD m default) j i)).isSome
def joinAt (x y w h : Int) (L : List Fr) (m : Nat) : Int :=
  if (L.getD m default).err ≠ 0 then (L.getD m default).err else if inB (L.getD m default).x (L.getD m default).y (L.getD m default).w (L.getD m default).h x y w h = false then 5 else if dupB L m = true then 7 else 0
def joinTo (x y w h : Int) (L : List Fr) : Nat → Int
  | 0 => 0
  | m + 1 => if joinTo x y w h L m ≠ 0 then joinTo x y w h L m else joinAt x y w h L m
def joinErr (x y w h : Int) (L : List Fr) : Int :=
  if checkRegion x y w h ≠ 0 then checkRegion x y w h else if joinTo x y w h L L.length ≠ 0 then joinTo x y w h L L.length else if (cntF L L.length : Int) < w * h then 10 else 0
theorem joinTo_stay {x y w h : Int} {L : List Fr} {k : Nat} {e : Int} (he : e ≠ 0) (hk : joinTo x y w h L k = e) : ∀ m, k ≤ m → joinTo x y w h L m = e := by
  intro m hm
  induction m with
  | zero => rw [show 0 = k by omega]; exact hk
  | succ m ih =>
    rcases Nat.lt_or_ge m k with h1 | h1
    · rw [show m + 1 = k by omega]; exact hk
    · rw [joinTo, ih h1, if_pos he]
/-- As src, and the part of frame m ahead of its row j, column i. -/
def srcAt (L : List Fr) (m j i : Nat) (p : Int × Int) : Option (Fr × Nat) :=
  (src L m p).or (if covB (L.getD m default) p && (decide (p.2 < (L.getD m default).y + j) || (decide (p.2 = (L.getD m default).y + j) && decide (p.1 < (L.getD m default).x + i))) then some (L.getD m default, pixN (L.getD m default) p) else none)
theorem src_zero (L : List Fr) (p : Int × Int) : src L 0 p = none := by simp [src]
theorem src_succ (L : List Fr) (m : Nat) (p : Int × Int) (hm : m < L.length) : src L (m + 1) p = (src L m p).or (if covB (L.getD m default) p then some (L.getD m default, pixN (L.getD m default) p) else none) := by
  unfold src
  rw [List.take_succ_eq_append_getElem hm, List.find?_append]
  have e : L.getD m default = L[m] := by simp [List.getD, hm]
  rw [e]
  cases h : (L.take m).find? fun f => covB f p with
  | some f => rfl
  | none =>
    rw [Option.none_or, Option.map_none, Option.none_or, List.find?_cons]
    cases hc : covB L[m] p
    · rfl
    · rfl
theorem srcAt_start (L : List Fr) (m : Nat) (p : Int × Int) : srcAt L m 0 0 p = src L m p := by
  unfold srcAt
  rw [if_neg]
  · exact Option.or_none
  · simp only [covB, Bool.and_eq_true, Bool.or_eq_true, decide_eq_true_eq, not_and]
    omega
theorem srcAt_row (L : List Fr) (m j w : Nat) (p : Int × Int) (hw : (L.getD m default).w = w) : srcAt L m j w p = srcAt L m (j + 1) 0 p := by
  unfold srcAt
  congr 2
  rw [eq_iff_iff]
  simp only [covB, Bool.and_eq_true, Bool.or_eq_true, decide_eq_true_eq]
  omega
theorem srcAt_end (L : List Fr) (m h : Nat) (p : Int × Int) (hm : m < L.length) (hh : (L.getD m default).h = h) : srcAt L m h 0 p = src L (m + 1) p := by
  rw [src_succ L m p hm]
  unfold srcAt
  congr 2
  rw [eq_iff_iff]
  simp only [covB, Bool.and_eq_true, Bool.or_eq_true, decide_eq_true_eq]
  omega
theorem pixN_at {f : Fr} {w j i : Nat} (hw : f.w = w) : pixN f (ptAt f j i) = j * w + i := by
  unfold pixN ptAt
  rw [hw, show f.y + (j : Int) - f.y = j by omega, show f.x + (i : Int) - f.x = i by omega]
  omega
theorem srcAt_step (L : List Fr) (m j i w h : Nat) (p : Int × Int) (hw : (L.getD m default).w = w) (hh : (L.getD m default).h = h) (hi : i < w) (hj : j < h) :
    srcAt L m j (i + 1) p = (srcAt L m j i p).or (if ptAt (L.getD m default) j i = p then some (L.getD m default, j * w + i) else none) := by
  have hpx := pixN_at (f := L.getD m default) (j := j) (i := i) hw
  unfold srcAt
  generalize L.getD m default = f at *
  rw [Option.or_assoc]
  congr 1
  by_cases hp : ptAt f j i = p
  · subst hp
    rw [hpx, if_pos rfl, if_pos, if_neg]
    · rfl
    · intro hc; unfold covB ptAt at hc; simp only [Bool.and_eq_true, Bool.or_eq_true, decide_eq_true_eq] at hc; omega
    · have d1 : decide (f.x ≤ f.x + (i : Int)) = true := decide_eq_true (by omega)
      have d2 : decide (f.x + (i : Int) < f.x + f.w) = true := decide_eq_true (by omega)
      have d3 : decide (f.y ≤ f.y + (j : Int)) = true := decide_eq_true (by omega)
      have d4 : decide (f.y + (j : Int) < f.y + f.h) = true := decide_eq_true (by omega)
      have d5 : decide (f.x + (i : Int) < f.x + ((i + 1 : Nat) : Int)) = true := decide_eq_true (by omega)
      unfold covB ptAt
      simp only [d1, d2, d3, d4, d5, decide_true, Bool.and_true, Bool.or_true]
  · rw [if_neg hp, Option.or_none]
    have hp2 : ¬ (p.1 = f.x + i ∧ p.2 = f.y + j) := fun h => hp (by unfold ptAt; rw [← h.1, ← h.2])
    have e : ((covB f p && (decide (p.2 < f.y + (j : Int)) || (decide (p.2 = f.y + (j : Int)) && decide (p.1 < f.x + ((i + 1 : Nat) : Int))))) = true) = ((covB f p && (decide (p.2 < f.y + (j : Int)) || (decide (p.2 = f.y + (j : Int)) && decide (p.1 < f.x + (i : Int))))) = true) := by
      rw [eq_iff_iff]
      simp only [covB, Bool.and_eq_true, Bool.or_eq_true, decide_eq_true_eq]
      omega
    simp only [e]
theorem srcAt_here (L : List Fr) (m j i : Nat) : srcAt L m j i (ptAt (L.getD m default) j i) = src L m (ptAt (L.getD m default) j i) := by
  unfold srcAt
  rw [if_neg]
  · exact Option.or_none
  · intro hc; unfold covB ptAt at hc; simp only [Bool.and_eq_true, Bool.or_eq_true, decide_eq_true_eq] at hc; omega
theorem dup_of {L : List Fr} {m j i : Nat} (hj : (j : Int) < (L.getD m default).h) (hi : (i : Int) < (L.getD m default).w) (h : (src L m (ptAt (L.getD m default) j i)).isSome = true) : dupB L m = true := by
  unfold dupB
  rw [List.any_eq_true]
  refine ⟨j, List.mem_range.2 (by omega), ?_⟩
  rw [List.any_eq_true]
  exact ⟨i, List.mem_range.2 (by omega), h⟩
theorem dup_not {L : List Fr} {m : Nat} (h : ∀ j i : Nat, (j : Int) < (L.getD m default).h → (i : Int) < (L.getD m default).w → src L m (ptAt (L.getD m default) j i) = none) : dupB L m = false := by
  rw [Bool.eq_false_iff]
  intro hd
  unfold dupB at hd
  rw [List.any_eq_true] at hd
  obtain ⟨j, hj, hd⟩ := hd
  rw [List.any_eq_true] at hd
  obtain ⟨i, hi, hd⟩ := hd
  rw [List.mem_range] at hj hi
  rw [h j i (by omega) (by omega)] at hd
  cases hd
theorem not_dup {L : List Fr} {m : Nat} (h : dupB L m = false) (j i : Nat) (hj : (j : Int) < (L.getD m default).h) (hi : (i : Int) < (L.getD m default).w) : src L m (ptAt (L.getD m default) j i) = none := by
  cases hs : src L m (ptAt (L.getD m default) j i) with
  | none => rfl
  | some z =>
    rw [dup_of hj hi (by rw [hs]; rfl)] at h
    cases h

/-- The place with a number, in a region. -/
def pOf (x y : Int) (w k : Nat) : Int × Int := (x + ((k % w : Nat) : Int), y + ((k / w : Nat) : Int))
theorem pOf_iff {x y : Int} {w k j i : Nat} (hi : i < w) : pOf x y w k = (x + i, y + j) ↔ k = j * w + i := by
  unfold pOf
  constructor
  · intro h
    have h1 := congrArg Prod.fst h
    have h2 := congrArg Prod.snd h
    simp only at h1 h2
    have e1 : k % w = i := by omega
    have e2 : k / w = j := by omega
    have := Nat.div_add_mod k w
    rw [e1, e2, Nat.mul_comm] at this
    omega
  · rintro rfl
    rw [show j * w + i = i + w * j by rw [Nat.mul_comm, Nat.add_comm], Nat.add_mul_mod_self_left, Nat.mod_eq_of_lt hi, Nat.add_mul_div_left _ _ (by omega), Nat.div_eq_of_lt hi, Nat.zero_add]
/-- What the joined frame has, after m frames. -/
def outP (x y : Int) (w : Nat) (L : List Fr) (m : Nat) (p c : Nat) : Nat := match src L m (pOf x y w p) with
  | some (f, n) => f.V.getD (4 * n + c) 0
  | none => 0
theorem canon_zero : canon 0 = 0 := by decide
theorem out_zero (x y : Int) (w : Nat) (L : List Fr) (N : Nat) : madeL (outP x y w L 0) N = List.replicate N 0 := by
  unfold madeL
  have : ∀ k, canon (outP x y w L 0 (k / 4) (k % 4)) = 0 := fun k => by unfold outP; rw [src_zero]; exact canon_zero
  simp only [this]
  rw [List.map_const', List.length_range]
theorem madeL_get (P : Nat → Nat → Nat) (n k : Nat) (hk : k < n) : (madeL P n).getD k 0 = canon (P (k / 4) (k % 4)) := by
  unfold madeL
  simp [List.getD, hk]
theorem out_step (x y : Int) (w h : Nat) (L : List Fr) (m fw fh i0 j0 : Nat) (hm : m < L.length) (hw : (L.getD m default).w = fw) (hh : (L.getD m default).h = fh) (hx : (L.getD m default).x = x + i0) (hy : (L.getD m default).y = y + j0) (_hw1 : i0 + fw ≤ w) (_hh1 : j0 + fh ≤ h)
    (hd : dupB L m = false) :
    copyL (madeL (outP x y w L m) (4 * (w * h))) (L.getD m default).V w h fw i0 j0 0 0 fw fh fh 0 = madeL (outP x y w L (m + 1)) (4 * (w * h)) := by
  have hnd := not_dup hd
  unfold copyL
  rw [show madeL (outP x y w L (m + 1)) (4 * (w * h)) = (List.range (4 * (w * h))).map fun k => canon (outP x y w L (m + 1) (k / 4) (k % 4)) from rfl]
  apply List.map_congr_left
  intro k hk
  rw [List.mem_range] at hk
  have hs := src_succ L m (pOf x y w (k / 4)) hm
  rw [madeL_get _ _ _ hk]
  have hcov : covB (L.getD m default) (pOf x y w (k / 4)) = true ↔ (j0 ≤ k / 4 / w ∧ k / 4 / w < j0 + fh) ∧ (i0 ≤ k / 4 % w ∧ k / 4 % w < i0 + fw) := by
    unfold covB pOf
    rw [hw, hh, hx, hy]
    simp only [Bool.and_eq_true, decide_eq_true_eq]
    omega
  by_cases hc : (j0 ≤ k / 4 / w ∧ k / 4 / w < j0 + fh) ∧ (i0 ≤ k / 4 % w ∧ k / 4 % w < i0 + fw)
  · rw [if_pos (by omega)]
    obtain ⟨j, hj⟩ : ∃ j, k / 4 / w = j0 + j := ⟨k / 4 / w - j0, by omega⟩
    obtain ⟨i, hi⟩ : ∃ i, k / 4 % w = i0 + i := ⟨k / 4 % w - i0, by omega⟩
    have hp : pOf x y w (k / 4) = ptAt (L.getD m default) j i := by
      unfold pOf ptAt
      rw [hx, hy, hj, hi]
      ext <;> simp <;> omega
    have hn := hnd j i (by rw [hh]; omega) (by rw [hw]; omega)
    rw [hcov.2 hc, if_pos rfl, hp, hn, Option.none_or, pixN_at hw] at hs
    unfold outP
    rw [hp, hs]
    simp only
    rw [hj, hi, show j0 + j - j0 = j by omega, show i0 + i - i0 = i by omega, show 0 + j = j by omega, Nat.add_zero]
  · rw [if_neg (by omega)]
    have hcf : covB (L.getD m default) (pOf x y w (k / 4)) = false := by
      rw [Bool.eq_false_iff]; exact fun h => hc (hcov.1 h)
    rw [hcf, if_neg (by simp), Option.or_none] at hs
    unfold outP
    rw [hs]
end Go.Proofs.Ytccbhghpghijiaa
