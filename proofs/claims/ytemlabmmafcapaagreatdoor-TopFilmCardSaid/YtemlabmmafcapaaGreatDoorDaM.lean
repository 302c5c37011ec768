/- slices.Sort and slices.Compact of integers that the call has gathered. -/
import Derived.Test.YtemlabmmafcapaaGreatDoorDfP
import Derived.Test.YtemlabmmafcapaaGreatDoorShelf
import Derived.Lib.OwnBridge
namespace Go.Proofs.YtemlabmmafcapaaGreatDoor
open Go.RowKit Go.Sort Go.Lib

theorem below_grow {B : Nat} {w0 w : World} {os : Array Obj} (h : Below B w0 w) (hB : B ≤ w0.heap.size) : Below B w0 (grow w os) :=
  ⟨h.os, h.tape, h.output, Nat.le_trans h.size (by simp [grow]), fun k hk => by
    rw [← h.block k hk]
    exact heap_grow_old _ _ (Nat.lt_of_lt_of_le (Nat.lt_of_lt_of_le hk hB) h.size)⟩
theorem owns_grow {w : World} {base s n : Nat} {e : TypeId} {v : Value} {xs : List Value} {os : Array Obj} (h : w.ownsRow base e s v n xs) : (grow w os).ownsRow base e s v n xs := by
  refine ⟨h.1, ?_⟩
  rcases h.2 with h0 | ⟨g, cap, cur, e1, e2, e3, e4⟩
  · exact .inl h0
  · exact .inr ⟨g, cap, cur, e1, e2, by rw [heap_grow_old _ _ (Array.getElem?_eq_some_iff.1 e3).1]; exact e3, e4⟩
theorem sort_own {W : World} {B : Nat} {v : Value} {n : Nat} {zs : List Int} (h : W.ownsRow B 3 1 v n (zs.map (Value.int .i64))) (hv : v ≠ .slice none 0 0) (hB : B ≤ W.heap.size) (hn : n < 4611686018427387904) :
    Calls Tryz.prog 29 #[v] W fun e w' => e = .returned (.tuple #[]) ∧ w'.ownsRow B 3 1 v n ((zs.mergeSort fun x y => decide (x ≤ y)).map (Value.int .i64)) ∧ Below B W w' := by
  obtain ⟨g, cap, rfl, hg, hlt, hnc, hcm, hl, hH⟩ := holds_of_ownsRow h hv
  subst hl
  refine (Tryz.slices_Sort_int g 0 cap zs W hH hlt hn).mono ?_
  rintro e w' ⟨rfl, q, os, rfl⟩
  have hlen : (zs.mergeSort fun x y => decide (x ≤ y)).length = zs.length := List.length_mergeSort _
  refine ⟨rfl, ?_, below_grow (below_putRow (Below.refl B W) hg) hB⟩
  have := owns_grow (os := os) (ownsRow_putRow (q := q) h hlen (Nat.le_refl _))
  rw [← hlen, List.take_length, hlen] at this
  exact this
theorem compact_own {W : World} {B : Nat} {v : Value} {n : Nat} {zs : List Int} (h : W.ownsRow B 3 1 v n (zs.map (Value.int .i64))) (hv : v ≠ .slice none 0 0) (hn : n < 4611686018427387904) :
    Calls Tryz.prog 30 #[v] W fun e w' => ∃ g cap, e = .returned (.slice (some ⟨g, 0, none⟩) (Lib.compact zs).length cap) ∧ w'.ownsRow B 3 1 (.slice (some ⟨g, 0, none⟩) (Lib.compact zs).length cap) (Lib.compact zs).length ((Lib.compact zs).map (Value.int .i64)) ∧ Below B W w' := by
  obtain ⟨g, cap, rfl, hg, hlt, hnc, hcm, hl, hH⟩ := holds_of_ownsRow h hv
  subst hl
  refine (Tryz.slices_Compact_int g 0 cap zs W hH (by omega) hnc).mono ?_
  rintro e w' ⟨rfl, q, rfl⟩
  have hle : (Lib.compact zs).length ≤ zs.length := compact_length_le zs
  refine ⟨g, cap, rfl, ?_, below_putRow (Below.refl B W) hg⟩
  have := ownsRow_putRow (q := q) (ys := Lib.compact zs ++ List.replicate (zs.length - (Lib.compact zs).length) 0) h (by simp; omega) hle
  rw [List.take_left] at this
  exact this
end Go.Proofs.YtemlabmmafcapaaGreatDoor
