/- frame.has, offset, Take, Fill, Clean, Put, At. -/
import Derived.Test.YtjicgbpnplmpbaaDoorCutA
import Derived.Test.YtjicgbpnplmpbaaDoorFrBx
import Derived.Test.YtjicgbpnplmpbaaDoorRel
import Derived.BigGuardPart
namespace Go.Proofs.YtjicgbpnplmpbaaDoor
open Go.RowKit

/-- The region has the place. -/
def hasB (rx ry rw rh x y : Int) : Bool := decide (rx ≤ x) && decide (ry ≤ y) && decide (x < rx + rw) && decide (y < ry + rh)

set_option maxHeartbeats 400000 in
theorem frame_has (rx ry rw rh x y : Int) (W : World) (h1 : -10000000 ≤ rx) (h2 : rx ≤ 10000000) (h3 : -10000000 ≤ ry) (h4 : ry ≤ 10000000) (h5 : 0 ≤ rw) (h6 : rw ≤ 1000) (h7 : 0 ≤ rh) (h8 : rh ≤ 1000) :
    Calls Tryd.prog 42 #[.agg #[.int .i64 rx, .int .i64 ry, .int .i64 rw, .int .i64 rh], .int .i64 x, .int .i64 y] W fun e w' => e = .returned (.bool (hasB rx ry rw rh x y)) ∧ Below W.heap.size W w' := by
  go_enter Tryd.func42, Tryd.ntmps42
  go_wp2_with fail
  all_goals go_ret
  all_goals refine ⟨ret_bool ?_, bnew (Below.refl _ W)⟩
  all_goals (unfold hasB; rw [Bool.eq_iff_iff]; simp; omega)
theorem frame_has_at (rx ry rw rh x y : Int) (r : Bool) (hv : hasB rx ry rw rh x y = r) (W : World) (h1 : -10000000 ≤ rx) (h2 : rx ≤ 10000000) (h3 : -10000000 ≤ ry) (h4 : ry ≤ 10000000) (h5 : 0 ≤ rw) (h6 : rw ≤ 1000) (h7 : 0 ≤ rh) (h8 : rh ≤ 1000) :
    Calls Tryd.prog 42 #[.agg #[.int .i64 rx, .int .i64 ry, .int .i64 rw, .int .i64 rh], .int .i64 x, .int .i64 y] W fun e w' => e = .returned (.bool r) ∧ Below W.heap.size W w' := by
  subst hv
  exact frame_has rx ry rw rh x y W h1 h2 h3 h4 h5 h6 h7 h8

set_option maxHeartbeats 400000 in
theorem frame_offset (rx ry : Int) (w : Nat) (h : Int) (i j : Nat) (W : World) (h1 : -10000000 ≤ rx) (h2 : rx ≤ 10000000) (h3 : -10000000 ≤ ry) (h4 : ry ≤ 10000000) (hw : w ≤ 256) (hi : i ≤ 256) (hj : j ≤ 256) :
    Calls Tryd.prog 43 #[.agg #[.int .i64 rx, .int .i64 ry, .int .i64 (w : Int), .int .i64 h], .int .i64 (rx + (i : Int)), .int .i64 (ry + (j : Int))] W fun e w' => e = .returned (.int .i64 ((4 * (j * w + i) : Nat) : Int)) ∧ Below W.heap.size W w' := by
  have hjw : j * w ≤ 256 * 256 := Nat.mul_le_mul hj hw
  obtain ⟨q, hq⟩ : ∃ q : Nat, j * w = q := ⟨_, rfl⟩
  have hcast : (j : Int) * (w : Int) = (q : Int) := by rw [← hq]; push_cast; rfl
  have hmul : wrap64 ((j : Int) * (w : Int)) = (q : Int) := by
    rw [hcast]
    exact IntWalk.wrap64_in _ ⟨by omega, by omega⟩
  rw [hq] at hjw ⊢
  clear hcast
  have e1 : ry + (j : Int) - ry = (j : Int) := by omega
  clear hq
  go_enter Tryd.func43, Tryd.ntmps43
  go_wp2_with fail
  go_ret
  exact ⟨ret_int (by push_cast; omega), bnew (Below.refl _ W)⟩

set_option maxRecDepth 100000 in
theorem frame_Take_ok (b o n c : Nat) (xs : List Nat) (W : World) (hn : 4 ≤ n) (hnc : n ≤ c) (hxs : xs.length = n) (hrd : Rd W b o xs) :
    Calls Tryd.prog 10 #[.slice (some ⟨b, o, none⟩) n c] W fun e w' => e = .returned (.tuple #[.agg #[.float .f32 (xs.getD 0 0), .float .f32 (xs.getD 1 0), .float .f32 (xs.getD 2 0), .float .f32 (xs.getD 3 0)], .int .i64 0]) ∧ Below W.heap.size W w' := by
  have e0 : W.cell? ⟨b, o, none⟩ = _ := hrd.cell 0 (by omega)
  have e1 : W.cell? ⟨b, o + 1, none⟩ = _ := hrd.cell 1 (by omega)
  have e2 : W.cell? ⟨b, o + 2, none⟩ = _ := hrd.cell 2 (by omega)
  have e3 : W.cell? ⟨b, o + 3, none⟩ = _ := hrd.cell 3 (by omega)
  have hb := hrd.lt
  clear hxs hrd
  have hn4 : ¬ n < 4 := by omega
  go_enter Tryd.func10, Tryd.ntmps10
  go_wp2_with fail
  refine bodyPost_ret (v := .tuple #[.agg #[.float .f32 (xs.getD 0 0), .float .f32 (xs.getD 1 0), .float .f32 (xs.getD 2 0), .float .f32 (xs.getD 3 0)], .int .i64 0]) (by simp [results, Tryd.results10, go_sem]) rfl ⟨rfl, bnew (Below.refl _ W)⟩

set_option maxRecDepth 100000 in
theorem frame_Take_bad (a : Option Addr) (n c : Nat) (W : World) (hn : n < 4) :
    Calls Tryd.prog 10 #[.slice a n c] W fun e w' => e = .returned (.tuple #[.agg #[.float .f32 0, .float .f32 0, .float .f32 0, .float .f32 0], .int .i64 2]) ∧ Below W.heap.size W w' := by
  go_enter Tryd.func10, Tryd.ntmps10
  go_wp2_with fail
  all_goals (try omega)
  refine bodyPost_ret (v := .tuple #[.agg #[.float .f32 0, .float .f32 0, .float .f32 0, .float .f32 0], .int .i64 2]) (by simp [results, Tryd.results10, go_sem]) rfl ⟨rfl, bnew (Below.refl _ W)⟩

theorem clean_gives (x y w h : Int) (b o c N fb : Nat) (xs : List Nat) (W : World) (hxs : xs.length = N) (hrd : Rd W b o xs) (hf : Bx W fb 26 #[.int .i64 x, .int .i64 y, .int .i64 w, .int .i64 h, .slice (some ⟨b, o, none⟩) N c]) :
    Gives W 41 #[.pointer (some ⟨fb, 0, none⟩)] N (fun k => xs.getD k 0) := by
  refine ⟨fun args u => ?_, fun k u hk hu => ?_⟩
  · exact call_enter Tryd.func41 (by kernel_rfl) (by kernel_rfl) _ _
  · have z0 := hf.below hu hf.lt
    have s1 := hrd.below hu hrd.lt
    have hc := s1.cell k (by omega)
    have l1 := s1.lt
    obtain ⟨q0, f0, l0⟩ := z0.all
    have hki : (k : Int) < (N : Int) := by omega
    clear hf hrd hu hxs
    go_enter Tryd.func41, Tryd.ntmps41
    go_wp2_with fail
    go_ret
    exact ⟨rfl, Below.refl _ _⟩

/-- The singles with another pixel at F. -/
def putV (xs : List Nat) (F : Nat) (p : Nat → Nat) (k : Nat) : Nat := if F ≤ k ∧ k < F + 4 then p (k - F) else xs.getD k 0

end Go.Proofs.YtjicgbpnplmpbaaDoor
