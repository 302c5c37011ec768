/- conform.far, conform.long, conform.Slip$1. -/
import Derived.Test.YtemlabmmafcapaaGreatDoorEvt
namespace Go.Proofs.YtemlabmmafcapaaGreatDoor
open Go.RowKit

set_option maxRecDepth 100000 in
theorem conform_far (by_ : Int) (W : World) : Calls Tryz.prog 25 #[.int .i64 by_] W fun e w' => e = .returned (.int .i64 (imin (imax by_ (-1073741824)) 1073741824)) ∧ w' = W := by
  go_enter Tryz.func25, Tryz.ntmps25
  go_wp2_with fail
  go_ret
  exact ⟨rfl, rfl⟩

set_option maxRecDepth 100000 in
set_option maxHeartbeats 2000000 in
theorem conform_long (s : ByteArray) (k l i o p : Int) (W : World) (h1 : 0 ≤ i) (h2 : i < o) (h3 : o ≤ 16777216) :
    Calls Tryz.prog 15 #[.agg #[.string s, .int .i64 k, .int .i64 l, .int .i64 i, .int .i64 o, .int .i64 p]] W fun e w' => e = .returned (.int .i64 (o - i)) ∧ Below W.heap.size W w' := by
  go_enter Tryz.func15, Tryz.ntmps15
  go_wp2_with fail
  go_ret
  exact ⟨rfl, bnew (Below.refl _ W)⟩

set_option maxRecDepth 100000 in
set_option maxHeartbeats 4000000 in
theorem conform_Slip1 (g off m c pb : Nat) (by_ inn out : Int) (W : World) (hm : 0 < m) (hp : W.cell? ⟨pb, 0, none⟩ = some (.int .i64 by_))
    (h3 : W.cell? ⟨g, off + 3, none⟩ = some (.int .i64 inn)) (h4 : W.cell? ⟨g, off + 4, none⟩ = some (.int .i64 out)) (hf : ∀ q, W.frozen? ⟨g, q, none⟩ = false)
    (b1 : 0 ≤ inn) (b2 : inn ≤ 16777216) (b3 : 0 ≤ out) (b4 : out ≤ 16777216) (b5 : -1073741824 ≤ by_) (b6 : by_ ≤ 1073741824) :
    Calls Tryz.prog 27 #[.slice (some ⟨g, off, none⟩) m c, .pointer (some ⟨pb, 0, none⟩)] W fun e w' => e = .returned (.tuple #[]) ∧ ∃ n, w' = ((W.setCell ⟨g, off + 3, none⟩ (.int .i64 (inn + by_))).setCell ⟨g, off + 4, none⟩ (.int .i64 (out + by_))).drewN n := by
  have f3 := hf (off + 3)
  have f4 := hf (off + 4)
  go_enter Tryz.func27, Tryz.ntmps27
  go_wp2_with fail
  go_region
  go_wp2_with fail
  go_region
  go_wp2_with fail
  go_end0
  exact ⟨rfl, 2, rfl⟩
end Go.Proofs.YtemlabmmafcapaaGreatDoor
