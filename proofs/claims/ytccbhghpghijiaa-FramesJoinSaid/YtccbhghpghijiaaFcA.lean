/- A frame that is not right: the reference's error, and what Print, Plane and Total answer. -/
import Derived.Test.YtccbhghpghijiaaWhn
import Derived.Test.YtccbhghpghijiaaReg
import Derived.Test.YtccbhghpghijiaaCln
import Derived.Test.YtccbhghpghijiaaTot
import Derived.Test.YtccbhghpghijiaaFst
namespace Go.Proofs.Ytccbhghpghijiaa
open Go.RowKit

theorem wrap_mul4 (w h : Int) (h1 : 1 ≤ w) (h2 : w ≤ 256) (h3 : 1 ≤ h) (h4 : h ≤ 256) : wrap64 (wrap64 (4 * w) * h) = 4 * w * h := by
  have e1 : wrap64 (4 * w) = 4 * w := IntWalk.wrap64_in _ (by constructor <;> omega)
  rw [e1]
  have h5 : 4 * w * h ≤ 4 * 256 * 256 := Int.mul_le_mul (by omega) h4 (by omega) (by omega)
  have h6 : 0 ≤ 4 * w * h := Int.mul_nonneg (by omega) (by omega)
  exact IntWalk.wrap64_in _ (by constructor <;> omega)

theorem checkFrame_eq (x y w h : Int) (n : Nat) : firstL [checkRegion x y w h, whenV ((n : Int) != wrap64 (wrap64 (4 * w) * h)) 2] = checkFrame x y w h n := by
  unfold checkFrame firstL
  split
  · rename_i h0
    obtain ⟨b1, b2, b3, b4, _⟩ := checkRegion_ok h0
    rw [wrap_mul4 w h b1 b2 b3 b4]
    by_cases hn : (n : Int) = 4 * w * h <;> simp [hn, whenV, firstL]
  · rfl

set_option maxRecDepth 100000 in
set_option maxHeartbeats 1000000 in
theorem ref_FrameError (x y w h : Int) (a : Option Addr) (n c : Nat) (W : World) :
    Calls Try.prog 21 #[.agg #[.int .i64 x, .int .i64 y, .int .i64 w, .int .i64 h, .slice a n c]] W fun e w' => e = .returned (.int .i64 (checkFrame x y w h n)) ∧ Below W.heap.size W w' := by
  rw [← checkFrame_eq]
  go_enter Try.func21, Try.ntmps21
  go_wp2_with fail
  refine name_world ?_
  intro wb hwb
  have x0 : Bx wb W.heap.size 26 #[.int .i64 x, .int .i64 y, .int .i64 w, .int .i64 h, .slice a n c] := by rw [hwb]; exact Bx.new _ _ _
  have B1 : Below W.heap.size W wb := by rw [hwb]; exact bnew (Below.refl _ W)
  clear hwb
  obtain ⟨q0, f0, l0⟩ := x0.all
  refine wp_region_tail (fun z : BW wb.heap.size wb => z.w) 16 (by kernel_rfl) (by kernel_rfl) (BW.start _ _) rfl ?_
  simp only [List.take_succ_cons, List.take_zero, List.drop_succ_cons, List.drop_zero]
  repeat (go_big_quiet_step (first
    | (go_at_call 20; exact BW.call (Nat.le_refl _) _ (ref_RegionError _ _ _ _ _))
    | (go_at_call 36; exact BW.call_same _ (ref_When _ _ _))))
  refine wpQuiet_nil ?_
  intro z
  go_wp2_with fail
  refine (ref_FirstL [checkRegion x y w h, whenV ((n : Int) != wrap64 (wrap64 (4 * w) * h)) 2] _ 2 _ _ _ rfl (by omega) (Bx.new _ _ _)).mono ?_
  rintro e w2 ⟨rfl, hb2⟩
  go_wp2_with fail
  go_ret
  exact ⟨rfl, bcall (bnew (bcall B1 z.below)) hb2⟩

end Go.Proofs.Ytccbhghpghijiaa
