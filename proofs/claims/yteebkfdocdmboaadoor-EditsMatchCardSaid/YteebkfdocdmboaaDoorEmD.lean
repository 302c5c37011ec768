/- dyeref1.Sources. (printed by gen_emd.py) -/
import Derived.Test.YteebkfdocdmboaaDoorEmA
import Derived.Test.YteebkfdocdmboaaDoorEmB
import Derived.Test.YteebkfdocdmboaaDoorEmQ
import Derived.Test.YteebkfdocdmboaaDoorSqE
namespace Go.Proofs.YteebkfdocdmboaaDoor
open Go.RowKit

set_option maxRecDepth 100000 in
set_option maxHeartbeats 4000000 in
theorem sq_nil (F : FuncId) (W : World) : Calls Tryd.prog 21 #[.slice none 0 0, .func (.func F) #[] #[]] W fun e w' => e = .returned (.tuple #[]) ∧ w' = W := by
  have h1 : Calls Tryd.prog 54 #[.slice none 0 0, .int .i64 0, .int .i64 0, .func (.func F) #[] #[]] W fun e w' => e = .returned (.tuple #[]) ∧ w' = W := by
    go_enter Tryd.func54, Tryd.ntmps54
    go_wp2_with fail
    go_loopw [8] (fun iv wr => iv = .int .i64 1 ∧ wr = W) (fun _ _ => 0)
    case atStart => exact ⟨rfl, by trivial⟩
    case round =>
      obtain ⟨rfl, rfl⟩ := hrel
      go_wp2_with fail
      go_end0
      exact ⟨rfl, rfl⟩
  have h2 : Calls Tryd.prog 37 #[.slice none 0 0, .int .i64 0, .func (.func F) #[] #[]] W fun e w' => e = .returned (.tuple #[]) ∧ w' = W := by
    go_enter Tryd.func37, Tryd.ntmps37
    go_wp2_with fail
    go_loopw [7, 8] (fun av bv wr => av = .int .i64 0 ∧ bv = .int .i64 20 ∧ wr = W) (fun _ _ _ => 0)
    case atStart => exact ⟨rfl, rfl, by trivial⟩
    case round =>
      obtain ⟨rfl, rfl, rfl⟩ := hrel
      go_wp2_with fail
      refine h1.mono ?_
      rintro e w2 ⟨rfl, rfl⟩
      go_wp2_with fail
      go_loopw [6] (fun sv wr => sv = .int .i64 20 ∧ wr = w2) (fun _ _ => 0)
      case atStart => exact ⟨rfl, by trivial⟩
      case round =>
        obtain ⟨rfl, rfl⟩ := hrel
        go_wp2_with fail
        first | go_end0 | (simp only [Exit.inBlock, Exit.then]; refine bodyPost_ret (results_none rfl _ _ _) rfl ?_) | refine bodyPost_ret (results_none rfl _ _ _) rfl ?_
        exact ⟨rfl, rfl⟩
  go_enter Tryd.func21, Tryd.ntmps21
  go_wp2_with fail
  refine h2.mono ?_
  rintro e w2 ⟨rfl, rfl⟩
  go_wp2_with fail
  go_end0
  exact ⟨rfl, rfl⟩

theorem pullsL_take {es : List Ev} {h : Int} {k : Nat} (hk : k < es.length) : (pullsL es h).take (k + 1) = (pullsL es h).take k ++ [pullAt es h k] := by
  rw [List.take_succ_eq_append_getElem (by rw [pullsL_len]; exact hk)]
  congr 2
  simp [pullsL]
theorem bnew' {B : Nat} {W w0 : World} {ob : Obj} (h : Below B W w0) (hB : B ≤ w0.heap.size) : Below B W (w0.alloc ob) := h.alloc hB ob
theorem own_mono3 {w : World} {B B' : Nat} {v : Value} {L : List Pl} (h : OwnQ B w v L) (hb : B' ≤ B) : OwnQ B' w v L := by
  refine ⟨h.1, ?_⟩
  rcases h.2 with h0 | ⟨g, cap, cur, e1, e2, e3⟩
  · exact .inl h0
  · exact .inr ⟨g, cap, cur, e1, by omega, e3⟩
theorem imax_max (x y : Int) : imax x y = max x y := by unfold imax; split <;> omega
theorem mStep_snoc (D : List Pl) (q p : Pl) : mStep (D ++ [q]) p = if q.reel = p.reel ∧ p.inn ≤ q.out then D ++ [⟨q.reel, q.inn, max q.out p.out⟩] else D ++ [q] ++ [p] := by
  unfold mStep
  rw [List.getLast?_concat]
  simp only [List.dropLast_concat]
/-- The last pull's end set anew. -/
theorem OwnQ.setOut {B : Nat} {w : World} {g cap : Nat} {O : List Pl} {q : Pl} (h : OwnQ B w (.slice (some ⟨g, 0, none⟩) (O ++ [q]).length cap) (O ++ [q])) (z : Int) : OwnQ B (w.setCell ⟨g, O.length * 3 + 2, none⟩ (.int .i64 z)) (.slice (some ⟨g, 0, none⟩) (O ++ [q]).length cap) (O ++ [⟨q.reel, q.inn, z⟩]) := by
  rcases h.2 with ⟨h0, _⟩ | ⟨g', cap', cur, e1, e2, e3, e4, e5, e6, e7⟩
  · cases h0
  · injection e1 with e1 _ e1c
    injection e1 with e1
    injection e1 with e1
    subst e1; subst e1c
    have hl : (O ++ [q]).length = O.length + 1 := by simp
    have hl2 : (O ++ [(⟨q.reel, q.inn, z⟩ : Pl)]).length = O.length + 1 := by simp
    unfold OwnQ
    rw [hl2, hl]
    rw [hl] at e4 e7
    refine ⟨by rw [plCells_len, hl2], .inr ⟨g, cap, cur.setIfInBounds (O.length * 3 + 2) (.int .i64 z), rfl, e2, heap_setCell_same w g _ cur _ _ e3, e4, e5, by simpa using e6, ?_⟩⟩
    rw [Array.toList_setIfInBounds, List.take_set, e7, plCells_append, plCells_append]
    have hc : (plCells O).length = O.length * 3 := plCells_len O
    rw [List.set_append_right _ _ (by omega), hc, show O.length * 3 + 2 - O.length * 3 = 2 by omega]
    rfl

end Go.Proofs.YteebkfdocdmboaaDoor
