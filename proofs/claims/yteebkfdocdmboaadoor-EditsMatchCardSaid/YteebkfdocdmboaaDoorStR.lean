/- The first singles of a block, whatever stands behind them. -/
import Derived.Test.YteebkfdocdmboaaDoorMem
namespace Go.Proofs.YteebkfdocdmboaaDoor
open Go.RowKit

/-- The first n cells of block g hold the singles xs. -/
def RowP (w : World) (g n : Nat) (xs : List Nat) : Prop :=
  xs.length = n ∧ ∃ (cur : Array Value) (R : List Value), w.heap[g]? = some (.cells cur 28 (0, 0)) ∧ cur.toList = xs.map (Value.float .f32) ++ R
theorem RowP.len {w : World} {g n : Nat} {xs : List Nat} (h : RowP w g n xs) : xs.length = n := h.1
theorem RowP.lt {w : World} {g n : Nat} {xs : List Nat} (h : RowP w g n xs) : g < w.heap.size := by
  obtain ⟨_, cur, _, h1, _⟩ := h
  exact (Array.getElem?_eq_some_iff.1 h1).1
theorem RowP.cell {w : World} {g n : Nat} {xs : List Nat} (h : RowP w g n xs) (k : Nat) (hk : k < n) : w.cell? ⟨g, k, none⟩ = some (.float .f32 (xs.getD k 0)) := by
  obtain ⟨hl, cur, R, h1, h2⟩ := h
  rw [cell_of_row w g k cur _ (0, 0) h1, ← Array.getElem?_toList, h2]
  subst hl
  rw [List.getElem?_append_left (by simpa using hk)]
  simp [hk]
theorem RowP.frozen {w : World} {g n : Nat} {xs : List Nat} (h : RowP w g n xs) (k : Nat) : w.frozen? ⟨g, k, none⟩ = false := by
  obtain ⟨hl, cur, R, h1, h2⟩ := h
  exact frozen_of_row w g k cur _ h1
theorem RowP.store {w : World} {g n : Nat} {xs : List Nat} (h : RowP w g n xs) (k v : Nat) : RowP (w.setCell ⟨g, k, none⟩ (.float .f32 v)) g n (xs.set k v) := by
  obtain ⟨hl, cur, R, h1, h2⟩ := h
  by_cases hk : k < xs.length
  · refine ⟨by simpa using hl, cur.setIfInBounds k (.float .f32 v), R, heap_setCell_same w g k cur _ _ h1, ?_⟩
    rw [Array.toList_setIfInBounds, h2, List.set_append_left _ _ (by simpa using hk), List.map_set]
  · refine ⟨by simpa using hl, cur.setIfInBounds k (.float .f32 v), R.set (k - xs.length) (.float .f32 v), heap_setCell_same w g k cur _ _ h1, ?_⟩
    rw [Array.toList_setIfInBounds, h2, List.set_append_right _ _ (by simpa using hk), show xs.set k v = xs from List.set_eq_of_length_le (by omega), List.length_map]
theorem RowP.below {B : Nat} {w w' : World} {g n : Nat} {xs : List Nat} (h : RowP w g n xs) (hb : Below B w w') (hg : g < B) : RowP w' g n xs := by
  obtain ⟨hl, cur, R, h1, h2⟩ := h
  exact ⟨hl, cur, R, by rw [hb.block g hg]; exact h1, h2⟩
theorem RowP.keep {w w' : World} {g n : Nat} {xs : List Nat} (h : RowP w g n xs) (hb : Below w.heap.size w w') : RowP w' g n xs := h.below hb h.lt
theorem RowP.drewN {w : World} {g n : Nat} {xs : List Nat} (h : RowP w g n xs) (m : Nat) : RowP (w.drewN m) g n xs := h
theorem RowP.rd {w : World} {g n : Nat} {xs : List Nat} (h : RowP w g n xs) : Rd w g 0 xs :=
  ⟨h.lt, fun k hk => by rw [Nat.zero_add]; exact h.cell k (by have := h.len; omega)⟩
theorem Row.rowP {w : World} {g n : Nat} {xs : List Nat} (h : Row w g n xs) : RowP w g n xs := by
  obtain ⟨hl, cur, h1, h2⟩ := h
  exact ⟨hl, cur, [], h1, by simpa using h2⟩
end Go.Proofs.YteebkfdocdmboaaDoor
