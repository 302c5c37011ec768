/- Two lists of singles compared: slices.EqualFunc with exact, dyeref2.SameFrame. -/
import Derived.Test.YtckadkobgmnoeaaDoorMem
import Derived.Laws.EntriesVeiled
namespace Go.Proofs.YtckadkobgmnoeaaDoor
open Go.RowKit

set_option maxRecDepth 100000 in
set_option maxHeartbeats 1000000 in
theorem ref_SameFrame (x y w h : Int) (b1 o1 c1 b2 o2 c2 n : Nat) (xs : List Nat) (W : World) (hn : n ≤ 1000000) (hxs : xs.length = n) (h1 : Rd W b1 o1 xs) (h2 : Rd W b2 o2 xs) :
    Calls Tryd.prog 9 #[.agg #[.int .i64 x, .int .i64 y, .int .i64 w, .int .i64 h, .slice (some ⟨b1, o1, none⟩) n c1], .agg #[.int .i64 x, .int .i64 y, .int .i64 w, .int .i64 h, .slice (some ⟨b2, o2, none⟩) n c2]] W fun e w' =>
      e = .returned (.bool true) ∧ Below W.heap.size W w' := by
  have Hxs := Lib.hid hxs
  have hb1 := h1.lt
  have hb2 := h2.lt
  clear hxs
  go_enter Tryd.func9, Tryd.ntmps9
  go_wp2_with fail
  refine name_world ?_
  intro wb hwb
  have x0 : Bx wb W.heap.size 26 #[.int .i64 x, .int .i64 y, .int .i64 w, .int .i64 h, .slice (some ⟨b1, o1, none⟩) n c1] := by rw [hwb]; exact Bx.alloc (Bx.new _ _ _) _
  have x1 : Bx wb (W.heap.size + 1) 26 #[.int .i64 x, .int .i64 y, .int .i64 w, .int .i64 h, .slice (some ⟨b2, o2, none⟩) n c2] := by rw [hwb]; exact Bx.at _ (by simp)
  have B1 : Below W.heap.size W wb := by rw [hwb]; exact bnew (bnew (Below.refl _ W))
  clear hwb
  have r1 := h1.keep B1
  have r2 := h2.keep B1
  clear h1 h2
  obtain ⟨q0, f0, l0⟩ := x0.all
  obtain ⟨q1, f1, l1⟩ := x1.all
  go_wp2_with fail
  go_loopw [23] (fun s wr => ∃ k : Nat, k ≤ n ∧ s = .int .i64 k ∧ ∃ m, wr = wb.drewN m) (fun s _ => n - (intOf s).toNat)
  case atStart => exact ⟨0, by omega, rfl, 0, rfl⟩
  case round =>
    obtain ⟨k, hk, rfl, m, rfl⟩ := hrel
    by_cases hlt : k < n
    · have hc1 := r1.cell k (by rw [Hxs.out]; exact hlt)
      have hc2 := r2.cell k (by rw [Hxs.out]; exact hlt)
      have hki : (k : Int) < (n : Int) := by omega
      go_wp2_with fail
      go_quiet (fail)
      go_wp2_with fail
      go_roundw
      case rel => exact ⟨k + 1, by omega, by go_num, _, rfl⟩
      case measure => simp [intOf]; omega
    · have hkn : k = n := by omega
      subst hkn
      go_wp2_with fail
      go_ret
      exact ⟨rfl, below_drewN B1 _⟩
end Go.Proofs.YtckadkobgmnoeaaDoor
