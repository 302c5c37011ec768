/- frame.FromPlanes at a plane of another length. -/
import Derived.Test.YtoffnmpnhddaiaaFrP
namespace Go.Proofs.Ytoffnmpnhddaiaa
open Go.RowKit

set_option maxRecDepth 100000 in
set_option maxHeartbeats 1000000 in
theorem frame_FromPlanes_len (x y w h : Int) (M n0 n1 n2 n3 c0 c1 c2 c3 : Nat) (a0 a1 a2 a3 : Option Addr) (W : World) (hc : checkRegion x y w h = 0) (hM : (M : Int) = w * h) (hbad : ¬ (n0 = M ∧ n1 = M ∧ n2 = M ∧ n3 = M)) :
    Calls Try.prog 28 #[.agg #[.int .i64 x, .int .i64 y, .int .i64 w, .int .i64 h], .agg #[.slice a0 n0 c0, .slice a1 n1 c1, .slice a2 n2 c2, .slice a3 n3 c3]] W fun e w' =>
      e = .returned (.tuple #[.agg #[.int .i64 0, .int .i64 0, .int .i64 0, .int .i64 0, .slice none 0 0], .int .i64 2]) ∧ Below W.heap.size W w' := by
  obtain ⟨b1, b2, b3, b4, b5, _⟩ := checkRegion_zero hc
  have hwr : wrap64 (w * h) = (M : Int) := (wrap_mul w h b1 b2 b3 b4).trans hM.symm
  have Hbad := Lib.hid hbad
  clear hbad hM b5
  go_enter Try.func28, Try.ntmps28
  go_wp2_with fail
  refine (frame_CheckRegion _ _ _ _ _).mono ?_
  rw [hc]
  rintro e w1 ⟨rfl, hb1⟩
  have B1 := bcall (bnew (bnew (bnew (Below.refl _ W)))) hb1
  have x0 := (Bx.alloc (Bx.alloc (Bx.new W 23 #[.int .i64 x, .int .i64 y, .int .i64 w, .int .i64 h]) _) _).keep hb1
  have x1 := (Bx.alloc (Bx.at (W.heap.size + 1) (by simp)) _).keep hb1
  have x2 := (Bx.at (W.heap.size + 1 + 1) (by simp)).keep hb1
  clear hb1 hc
  obtain ⟨q0, f0, l0⟩ := x0.all
  obtain ⟨q1, f1, l1⟩ := x1.all
  obtain ⟨q2, f2, l2⟩ := x2.all
  have j0 : ∀ w, (Instr.index 44 (.agg #[.slice a0 n0 c0, .slice a1 n1 c1, .slice a2 n2 c2, .slice a3 n3 c3]) (.int .i64 0)).run Try.prog w = .ok (.slice a0 n0 c0) w := fun _ => by kernel_rfl
  have j1 : ∀ w, (Instr.index 44 (.agg #[.slice a0 n0 c0, .slice a1 n1 c1, .slice a2 n2 c2, .slice a3 n3 c3]) (.int .i64 1)).run Try.prog w = .ok (.slice a1 n1 c1) w := fun _ => by kernel_rfl
  have j2 : ∀ w, (Instr.index 44 (.agg #[.slice a0 n0 c0, .slice a1 n1 c1, .slice a2 n2 c2, .slice a3 n3 c3]) (.int .i64 2)).run Try.prog w = .ok (.slice a2 n2 c2) w := fun _ => by kernel_rfl
  have j3 : ∀ w, (Instr.index 44 (.agg #[.slice a0 n0 c0, .slice a1 n1 c1, .slice a2 n2 c2, .slice a3 n3 c3]) (.int .i64 3)).run Try.prog w = .ok (.slice a3 n3 c3) w := fun _ => by kernel_rfl
  go_wp2_with fail
  go_loopw [16] (fun i wr => ∃ k : Nat, k ≤ 4 ∧ i = .int .i64 k ∧ wr = w1 ∧ Hid ((0 < k → n0 = M) ∧ (1 < k → n1 = M) ∧ (2 < k → n2 = M) ∧ (3 < k → n3 = M))) (fun i _ => 4 - (intOf i).toNat)
  case atStart => exact ⟨0, by omega, rfl, rfl, Lib.hid ⟨by omega, by omega, by omega, by omega⟩⟩
  case round =>
    obtain ⟨k, hk, rfl, rfl, Hk⟩ := hrel
    match k, hk, Hk with
    | 0, _, Hk =>
      by_cases h0 : n0 = M
      · have e0 : (n0 : Int) = (M : Int) := by omega
        have Hk' : Hid ((0 < 1 → n0 = M) ∧ (1 < 1 → n1 = M) ∧ (2 < 1 → n2 = M) ∧ (3 < 1 → n3 = M)) := Lib.hid ⟨fun _ => h0, by omega, by omega, by omega⟩
        clear h0 Hk
        go_wp2_with fail
        exact ⟨⟨1, by omega, rfl, trivial, Hk'⟩, by simp [intOf]⟩
      · have e0 : ¬ (n0 : Int) = (M : Int) := by omega
        clear h0 Hk
        go_wp2_with fail
        refine bodyPost_ret (v := .tuple #[.agg #[.int .i64 0, .int .i64 0, .int .i64 0, .int .i64 0, .slice none 0 0], .int .i64 2]) (by simp [results, Try.results28, go_sem, q2]) rfl ⟨rfl, ?_⟩
        repeat (refine bput (by omega) ?_)
        exact B1
    | 1, _, Hk =>
      by_cases h0 : n1 = M
      · have e0 : (n1 : Int) = (M : Int) := by omega
        have Hk' : Hid ((0 < 2 → n0 = M) ∧ (1 < 2 → n1 = M) ∧ (2 < 2 → n2 = M) ∧ (3 < 2 → n3 = M)) := Lib.hid ⟨fun _ => Hk.out.1 (by omega), fun _ => h0, by omega, by omega⟩
        clear h0 Hk
        go_wp2_with fail
        exact ⟨⟨2, by omega, rfl, trivial, Hk'⟩, by simp [intOf]⟩
      · have e0 : ¬ (n1 : Int) = (M : Int) := by omega
        clear h0 Hk
        go_wp2_with fail
        refine bodyPost_ret (v := .tuple #[.agg #[.int .i64 0, .int .i64 0, .int .i64 0, .int .i64 0, .slice none 0 0], .int .i64 2]) (by simp [results, Try.results28, go_sem, q2]) rfl ⟨rfl, ?_⟩
        repeat (refine bput (by omega) ?_)
        exact B1
    | 2, _, Hk =>
      by_cases h0 : n2 = M
      · have e0 : (n2 : Int) = (M : Int) := by omega
        have Hk' : Hid ((0 < 3 → n0 = M) ∧ (1 < 3 → n1 = M) ∧ (2 < 3 → n2 = M) ∧ (3 < 3 → n3 = M)) := Lib.hid ⟨fun _ => Hk.out.1 (by omega), fun _ => Hk.out.2.1 (by omega), fun _ => h0, by omega⟩
        clear h0 Hk
        go_wp2_with fail
        exact ⟨⟨3, by omega, rfl, trivial, Hk'⟩, by simp [intOf]⟩
      · have e0 : ¬ (n2 : Int) = (M : Int) := by omega
        clear h0 Hk
        go_wp2_with fail
        refine bodyPost_ret (v := .tuple #[.agg #[.int .i64 0, .int .i64 0, .int .i64 0, .int .i64 0, .slice none 0 0], .int .i64 2]) (by simp [results, Try.results28, go_sem, q2]) rfl ⟨rfl, ?_⟩
        repeat (refine bput (by omega) ?_)
        exact B1
    | 3, _, Hk =>
      by_cases h0 : n3 = M
      · have e0 : (n3 : Int) = (M : Int) := by omega
        have Hk' : Hid ((0 < 4 → n0 = M) ∧ (1 < 4 → n1 = M) ∧ (2 < 4 → n2 = M) ∧ (3 < 4 → n3 = M)) := Lib.hid ⟨fun _ => Hk.out.1 (by omega), fun _ => Hk.out.2.1 (by omega), fun _ => Hk.out.2.2.1 (by omega), fun _ => h0⟩
        clear h0 Hk
        go_wp2_with fail
        exact ⟨⟨4, by omega, rfl, trivial, Hk'⟩, by simp [intOf]⟩
      · have e0 : ¬ (n3 : Int) = (M : Int) := by omega
        clear h0 Hk
        go_wp2_with fail
        refine bodyPost_ret (v := .tuple #[.agg #[.int .i64 0, .int .i64 0, .int .i64 0, .int .i64 0, .slice none 0 0], .int .i64 2]) (by simp [results, Try.results28, go_sem, q2]) rfl ⟨rfl, ?_⟩
        repeat (refine bput (by omega) ?_)
        exact B1
    | 4, _, Hk => exact absurd ⟨Hk.out.1 (by omega), Hk.out.2.1 (by omega), Hk.out.2.2.1 (by omega), Hk.out.2.2.2 (by omega)⟩ Hbad.out
end Go.Proofs.Ytoffnmpnhddaiaa
