/- Plain steps of the reference's rows; its closure 'no'. -/
import Derived.Test.YtdcacijacmjjoaaDoorFpO
import Derived.Test.YtdcacijacmjjoaaDoorReg
namespace Go.Proofs.YtdcacijacmjjoaaDoor
open Go.RowKit

theorem rowR_none {l : ByteArray} {w : Int} (h : rowV (spl barB l) = none) : rowR l w = ([], 9) := by
  unfold rowR
  split
  · rw [h]
  · rfl
theorem rowR_ne {l : ByteArray} {w : Int} (h : ((spl barB l).length : Int) ≠ w) : rowR l w = ([], 9) := by
  unfold rowR; rw [if_neg h]
theorem rowR_ok {l : ByteArray} {w : Int} {us : List (Nat × Int)} (h : ((spl barB l).length : Int) = w) (hv : rowV (spl barB l) = some us) : rowR l w = (us.map (·.1), worst 0 us) := by
  unfold rowR; rw [if_pos h, hv]
theorem rowsP_step {w : Int} {n k i : Nat} {L : List ByteArray} {l : ByteArray} {acc : List Nat} (h : L[i]? = some l) (h2 : i + 1 < L.length) : rowsP w (n + 1) k (L.drop i) acc = if (rowR l w).2 = 0 then rowsP w n (k + 1) (L.drop (i + 1)) (acc ++ (rowR l w).1) else ([], (k : Int), (rowR l w).2) := by
  obtain ⟨hi, rfl⟩ := List.getElem?_eq_some_iff.1 h
  rw [List.drop_eq_getElem_cons hi, List.drop_eq_getElem_cons h2]
  simp only [rowsP]
theorem rowsP_last {w : Int} {n k i : Nat} {L : List ByteArray} {acc : List Nat} (h : L.length ≤ i + 1) : rowsP w (n + 1) k (L.drop i) acc = ([], (k : Int), 9) := by
  by_cases hi : i < L.length
  · rw [List.drop_eq_getElem_cons hi, List.drop_eq_nil_of_le h]
    simp only [rowsP]
  · rw [List.drop_eq_nil_of_le (by omega)]
    simp only [rowsP]
theorem rowsP_zero {w : Int} {k i : Nat} {L : List ByteArray} {acc : List Nat} : rowsP w 0 k (L.drop i) acc = if L.length = i + 1 ∧ L[i]? = some noB then (acc, 0, 0) else ([], (k : Int), 9) := by
  simp only [rowsP]
  have : L.drop i = [noB] ↔ L.length = i + 1 ∧ L[i]? = some noB := by
    constructor
    · intro h
      have h1 := congrArg List.length h
      rw [List.length_drop, List.length_singleton] at h1
      refine ⟨by omega, ?_⟩
      have h2 := congrArg (·[0]?) h
      simpa using h2
    · rintro ⟨h1, h2⟩
      obtain ⟨hi, h3⟩ := List.getElem?_eq_some_iff.1 h2
      rw [List.drop_eq_getElem_cons hi, h3, List.drop_eq_nil_of_le (by omega)]
  by_cases hc : L.drop i = [noB]
  · rw [if_pos hc, if_pos (this.1 hc)]
  · rw [if_neg hc, if_neg (fun h => hc (this.2 h))]

theorem row_bad {w rk rer er : Int} {n i : Nat} {L : List ByteArray} {l : ByteArray} {acc rvs : List Nat} {Z R : PR} (hr : rowsP w (n + 1) i (L.drop i) acc = (rvs, rk, rer)) (hl : L[i]? = some l) (h2 : i + 1 < L.length) (he : (rowR l w).2 = er) (hne : er ≠ 0) (hR : (if rer = 0 then Z else badP rk rer) = R) : badP (i : Int) er = R := by
  rw [rowsP_step hl h2, he, if_neg hne] at hr
  simp only [Prod.mk.injEq] at hr
  obtain ⟨-, rfl, rfl⟩ := hr
  rw [if_neg hne] at hR
  exact hR
theorem row_good {w rk rer : Int} {n i : Nat} {L : List ByteArray} {l : ByteArray} {acc rvs vs : List Nat} (hr : rowsP w (n + 1) i (L.drop i) acc = (rvs, rk, rer)) (hl : L[i]? = some l) (h2 : i + 1 < L.length) (he : rowR l w = (vs, 0)) : rowsP w n (i + 1) (L.drop (i + 1)) (acc ++ vs) = (rvs, rk, rer) := by
  rw [rowsP_step hl h2, he, if_pos rfl] at hr
  exact hr
theorem row_last {w rk rer : Int} {n i : Nat} {L : List ByteArray} {acc rvs : List Nat} {Z R : PR} (hr : rowsP w (n + 1) i (L.drop i) acc = (rvs, rk, rer)) (h2 : L.length ≤ i + 1) (hR : (if rer = 0 then Z else badP rk rer) = R) : badP (i : Int) 9 = R := by
  rw [rowsP_last h2] at hr
  simp only [Prod.mk.injEq] at hr
  obtain ⟨-, rfl, rfl⟩ := hr
  rw [if_neg (by decide)] at hR
  exact hR
theorem parse_bad {L : List ByteArray} {la : Nat} {l0 : ByteArray} (hl : L.length = la + 1) (h0 : L[0]? = some l0) (h : la = 0 ∨ headL (spl spB l0) = none) : parseL L = badP 0 9 := by
  rcases L with _ | ⟨a, _ | ⟨b, r⟩⟩
  · simp at hl
  · rfl
  · simp only [List.getElem?_cons_zero, Option.some.injEq] at h0
    subst h0
    rcases h with h | h
    · simp at hl; omega
    · simp only [parseL]; rw [h]
theorem parse_some {L : List ByteArray} {la : Nat} {l0 : ByteArray} {x y w h : Int} (hl : L.length = la + 1) (h0 : L[0]? = some l0) (hla : 1 ≤ la) (hh : headL (spl spB l0) = some (x, y, w, h)) : parseL L = if checkRegion x y w h = 0 then (match rowsP w h.toNat 1 (L.drop 1) [] with | (vs, k, e) => if e = 0 then ⟨x, y, w, h, vs, 0, 0⟩ else badP k e) else badP 0 (checkRegion x y w h) := by
  rcases L with _ | ⟨a, _ | ⟨b, r⟩⟩
  · simp at hl
  · simp at hl; omega
  · simp only [List.getElem?_cons_zero, Option.some.injEq] at h0
    subst h0
    simp only [parseL]; rw [hh]; rfl

set_option maxRecDepth 100000 in
set_option maxHeartbeats 4000000 in
theorem ref_no (k e : Int) (W : World) : Calls Tryd.prog 14 #[.int .i64 k, .int .i64 e] W fun en w' => en = .returned (.tuple #[.agg #[.int .i64 0, .int .i64 0, .int .i64 0, .int .i64 0, .slice none 0 0], .int .i64 k, .int .i64 e]) ∧ Below W.heap.size W w' := by
  go_enter Tryd.func14, Tryd.ntmps14
  go_upto_region 1 with fail
  refine name_world ?_
  intro w1 hw1
  obtain ⟨g, hg⟩ : ∃ g, g = W.heap.size := ⟨_, rfl⟩
  have x1 : Bx w1 g 27 #[.int .i64 0, .int .i64 0, .int .i64 0, .int .i64 0, .slice none 0 0] := by rw [hw1, hg]; exact Bx.new _ _ _
  have B1 : Below W.heap.size W w1 := by rw [hw1]; exact bnew (Below.refl _ _)
  have hWg : W.heap.size ≤ g := Nat.le_of_eq hg.symm
  rw [← hg]
  clear hw1 hg
  obtain ⟨q1, f1, l1⟩ := x1.all
  go_wp2_with fail
  obtain ⟨qR, _, _⟩ := (frame_put x1 (.int .i64 0) (.int .i64 0) (.int .i64 0) (.int .i64 0) (.slice none 0 0)).all
  refine bodyPost_ret (v := .tuple #[.agg #[.int .i64 0, .int .i64 0, .int .i64 0, .int .i64 0, .slice none 0 0], .int .i64 k, .int .i64 e]) (by simp [results, Tryd.results14, go_sem, qR]) rfl ⟨rfl, bput5 hWg B1⟩
end Go.Proofs.YtdcacijacmjjoaaDoor
