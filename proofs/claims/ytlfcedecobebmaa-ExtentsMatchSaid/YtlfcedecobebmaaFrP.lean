/- frame.Plane at a channel that is none. -/
import Derived.Test.YtlfcedecobebmaaPln
import Derived.Test.YtlfcedecobebmaaTail
import Derived.Test.YtlfcedecobebmaaReg
namespace Go.Proofs.Ytlfcedecobebmaa
open Go.RowKit

set_option maxRecDepth 100000 in
set_option maxHeartbeats 1000000 in
theorem frame_Plane_bad (x y w h ch : Int) (b o n c : Nat) (W : World) (hck : checkFrame x y w h n = 0) (hnm : n ≤ maxLen) (hch : ch < 0 ∨ 3 < ch) :
    Calls Try.prog 35 #[.agg #[.int .i64 x, .int .i64 y, .int .i64 w, .int .i64 h, .slice (some ⟨b, o, none⟩) n c], .int .i64 ch] W fun e w' =>
      e = .returned (.tuple #[.slice none 0 0, .int .i64 3]) ∧ Below W.heap.size W w' := by
  go_enter Try.func35, Try.ntmps35
  go_wp2_with fail
  refine (frame_Check _ _ _ _ _ _ _ _ hnm).mono ?_
  rw [hck]
  rintro e w1 ⟨rfl, hb1⟩
  have B1 := bcall (bnew (Below.refl _ W)) hb1
  clear hb1 hck
  rcases hch with hch | hch
  · go_wp2_with fail
    all_goals (try omega)
    go_ret2
    exact ⟨rfl, B1⟩
  · have h0 : ¬ ch < 0 := by omega
    go_wp2_with fail
    all_goals (try omega)
    go_ret2
    exact ⟨rfl, B1⟩

end Go.Proofs.Ytlfcedecobebmaa
