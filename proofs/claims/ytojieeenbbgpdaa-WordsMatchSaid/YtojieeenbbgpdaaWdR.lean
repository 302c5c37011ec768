/- (*strings.Replacer).Replace of a fresh replacer of the six strings. -/
import Derived.Test.YtojieeenbbgpdaaWdS
namespace Go.Proofs.Ytojieeenbbgpdaa
open Go.RowKit

set_option maxRecDepth 100000 in
set_option maxHeartbeats 4000000 in
theorem rep_Replace (p b c : Nat) (s : ByteArray) (W : World) (x : Bx W p 54 #[.int .u32 0, .int .i32 0, .int .u32 0, .nilIface, .slice (some ⟨b, 0, none⟩) 6 c]) (hb : b < W.heap.size) (hbp : b ≠ p) (hc : ∀ j v, onCells.toList[j]? = some v → W.cell? ⟨b, j, none⟩ = some v) (hs : s.size ≤ 140737488355328) :
    Calls Try.prog 11 #[.pointer (some ⟨p, 0, none⟩), .string s] W fun e w' => e = .returned (.string ⟨(esc s.data.toList).toArray⟩) ∧ ∀ B0 W0, B0 ≤ p → Below B0 W0 W → Below B0 W0 w' := by
  go_enter Try.func11, Try.ntmps11
  go_wp2_with fail
  refine (once_do p b c _ x hb hbp hc).mono ?_
  rintro e w1 ⟨G, C, hG, rfl, x2, hR, hB⟩
  obtain ⟨q2, f2, l2⟩ := x2.all
  go_wp2_with fail
  refine (bsr_Replace G s C _ hR hs).mono ?_
  rintro e w2 ⟨rfl, B2⟩
  go_wp2_with fail
  go_ret
  exact ⟨rfl, fun B0 W0 h0 h1 => (hB B0 W0 h0 h1).trans (B2.mono (Nat.le_of_lt (Nat.lt_of_le_of_lt h0 x2.lt)))⟩
end Go.Proofs.Ytojieeenbbgpdaa
