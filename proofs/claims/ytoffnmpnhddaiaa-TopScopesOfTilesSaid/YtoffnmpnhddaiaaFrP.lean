/- frame.Plane at a channel that is none. -/
import Derived.Test.YtoffnmpnhddaiaaEach
import Derived.Test.YtoffnmpnhddaiaaReg
namespace Go.Proofs.Ytoffnmpnhddaiaa
open Go.RowKit

set_option maxRecDepth 100000 in
set_option maxHeartbeats 1000000 in
theorem frame_Plane_bad (x y w h ch : Int) (b o n c : Nat) (W : World) (hck : checkFrame x y w h n = 0) (hnm : n ≤ maxLen) (hch : ch < 0 ∨ 3 < ch) :
    Calls Try.prog 25 #[.agg #[.int .i64 x, .int .i64 y, .int .i64 w, .int .i64 h, .slice (some ⟨b, o, none⟩) n c], .int .i64 ch] W fun e w' =>
      e = .returned (.tuple #[.slice none 0 0, .int .i64 3]) ∧ Below W.heap.size W w' := by
  go_enter Try.func25, Try.ntmps25
  go_wp2_with fail
  refine (frame_Check _ _ _ _ _ _ _ _ hnm).mono ?_
  rw [hck]
  rintro e w1 ⟨rfl, hb1⟩
  have B1 := bcall (bnew (Below.refl _ W)) hb1
  clear hb1 hck
  rcases hch with hch | hch
  · go_wp2_with fail
    all_goals (try omega)
    go_ret2
    exact ⟨rfl, B1⟩
  · have h0 : ¬ ch < 0 := by omega
    go_wp2_with fail
    all_goals (try omega)
    go_ret2
    exact ⟨rfl, B1⟩

set_option maxRecDepth 100000 in
set_option maxHeartbeats 1000000 in
theorem frame_FromPlanes_bad (x y w h k : Int) (v0 v1 v2 v3 : Value) (W : World) (hc : checkRegion x y w h = k) (hk : k ≠ 0) :
    Calls Try.prog 28 #[.agg #[.int .i64 x, .int .i64 y, .int .i64 w, .int .i64 h], .agg #[v0, v1, v2, v3]] W fun e w' =>
      e = .returned (.tuple #[.agg #[.int .i64 0, .int .i64 0, .int .i64 0, .int .i64 0, .slice none 0 0], .int .i64 k]) ∧ Below W.heap.size W w' := by
  go_enter Try.func28, Try.ntmps28
  go_wp2_with fail
  refine (frame_CheckRegion _ _ _ _ _).mono ?_
  rw [hc]
  rintro e w1 ⟨rfl, hb1⟩
  have x2 := (Bx.at (W.heap.size + 1 + 1) (by simp)).keep hb1
  have B1 := bcall (bnew (bnew (bnew (Below.refl _ W)))) hb1
  clear hb1 hc
  obtain ⟨q2, f2, l2⟩ := x2.all
  go_wp2_with fail
  refine bodyPost_ret (v := .tuple #[.agg #[.int .i64 0, .int .i64 0, .int .i64 0, .int .i64 0, .slice none 0 0], .int .i64 k]) (by simp [results, Try.results28, go_sem, q2]) rfl ⟨rfl, ?_⟩
  repeat (refine bput (by omega) ?_)
  exact B1

set_option maxRecDepth 100000 in
set_option maxHeartbeats 1000000 in
theorem frame_FromPlanes (x y w h : Int) (M c0 c1 c2 c3 g0 g1 g2 g3 o0 o1 o2 o3 : Nat) (F : Nat → List Nat) (W : World) (hc : checkRegion x y w h = 0) (hM : (M : Int) = w * h)
    (hl : ∀ c, c < 4 → (F c).length = M) (r0 : Rd W g0 o0 (F 0)) (r1 : Rd W g1 o1 (F 1)) (r2 : Rd W g2 o2 (F 2)) (r3 : Rd W g3 o3 (F 3)) :
    Calls Try.prog 28 #[.agg #[.int .i64 x, .int .i64 y, .int .i64 w, .int .i64 h], .agg #[.slice (some ⟨g0, o0, none⟩) M c0, .slice (some ⟨g1, o1, none⟩) M c1, .slice (some ⟨g2, o2, none⟩) M c2, .slice (some ⟨g3, o3, none⟩) M c3]] W fun e w' =>
      ∃ g, e = .returned (.tuple #[.agg #[.int .i64 x, .int .i64 y, .int .i64 w, .int .i64 h, .slice (some ⟨g, 0, none⟩) (4 * M) (4 * M)], .int .i64 0]) ∧ W.heap.size ≤ g ∧ Row w' g (4 * M) ((List.range (4 * M)).map fun k => canon ((F (k % 4)).getD (k / 4) 0)) ∧ Below W.heap.size W w' := by
  obtain ⟨a1, a2, a3, a4, a5, _⟩ := checkRegion_zero hc
  have hwr : wrap64 (w * h) = (M : Int) := (wrap_mul w h a1 a2 a3 a4).trans hM.symm
  have hM2 : M ≤ 65536 := by omega
  have Hl := Lib.hid hl
  have HM := Lib.hid hM
  clear hl hM a5
  go_enter Try.func28, Try.ntmps28
  go_wp2_with fail
  refine (frame_CheckRegion _ _ _ _ _).mono ?_
  rw [hc]
  rintro e w1 ⟨rfl, hb1⟩
  have B1 := bcall (bnew (bnew (bnew (Below.refl _ W)))) hb1
  have x0 := (Bx.alloc (Bx.alloc (Bx.new W 23 #[.int .i64 x, .int .i64 y, .int .i64 w, .int .i64 h]) _) _).keep hb1
  have x1 := (Bx.alloc (Bx.at (W.heap.size + 1) (by simp)) _).keep hb1
  have x2 := (Bx.at (W.heap.size + 1 + 1) (by simp)).keep hb1
  clear hb1 hc
  obtain ⟨q0, f0, l0⟩ := x0.all
  obtain ⟨q1, f1, l1⟩ := x1.all
  have s0 := r0.keep B1
  have s1 := r1.keep B1
  have s2 := r2.keep B1
  have s3 := r3.keep B1
  clear r0 r1 r2 r3
  have j0 : ∀ w, (Instr.index 44 (.agg #[.slice (some ⟨g0, o0, none⟩) M c0, .slice (some ⟨g1, o1, none⟩) M c1, .slice (some ⟨g2, o2, none⟩) M c2, .slice (some ⟨g3, o3, none⟩) M c3]) (.int .i64 0)).run Try.prog w = .ok (.slice (some ⟨g0, o0, none⟩) M c0) w := fun _ => by kernel_rfl
  have j1 : ∀ w, (Instr.index 44 (.agg #[.slice (some ⟨g0, o0, none⟩) M c0, .slice (some ⟨g1, o1, none⟩) M c1, .slice (some ⟨g2, o2, none⟩) M c2, .slice (some ⟨g3, o3, none⟩) M c3]) (.int .i64 1)).run Try.prog w = .ok (.slice (some ⟨g1, o1, none⟩) M c1) w := fun _ => by kernel_rfl
  have j2 : ∀ w, (Instr.index 44 (.agg #[.slice (some ⟨g0, o0, none⟩) M c0, .slice (some ⟨g1, o1, none⟩) M c1, .slice (some ⟨g2, o2, none⟩) M c2, .slice (some ⟨g3, o3, none⟩) M c3]) (.int .i64 2)).run Try.prog w = .ok (.slice (some ⟨g2, o2, none⟩) M c2) w := fun _ => by kernel_rfl
  have j3 : ∀ w, (Instr.index 44 (.agg #[.slice (some ⟨g0, o0, none⟩) M c0, .slice (some ⟨g1, o1, none⟩) M c1, .slice (some ⟨g2, o2, none⟩) M c2, .slice (some ⟨g3, o3, none⟩) M c3]) (.int .i64 3)).run Try.prog w = .ok (.slice (some ⟨g3, o3, none⟩) M c3) w := fun _ => by kernel_rfl
  go_wp2_with fail
  go_loopw [16] (fun i wr => ∃ k : Nat, k ≤ 4 ∧ i = .int .i64 k ∧ wr = w1) (fun i _ => 4 - (intOf i).toNat)
  case atStart => exact ⟨0, by omega, rfl, rfl⟩
  case round =>
    obtain ⟨k, hk, rfl, rfl⟩ := hrel
    match k, hk with
    | 0, _ | 1, _ | 2, _ | 3, _ =>
      go_wp2_with fail
      first | exact ⟨⟨1, by omega, rfl, trivial⟩, by simp [intOf]⟩ | exact ⟨⟨2, by omega, rfl, trivial⟩, by simp [intOf]⟩ | exact ⟨⟨3, by omega, rfl, trivial⟩, by simp [intOf]⟩ | exact ⟨⟨4, by omega, rfl, trivial⟩, by simp [intOf]⟩
    | 4, _ =>
      go_wp2_with fail
      refine (each_planes x y w h (W.heap.size + 1) M (4 * M) F _ HM.out hM2 rfl a1 a2 ⟨_, _, x1, rfl, fun c hc => ⟨Hl.out c hc, ?_⟩⟩).mono ?_
      · match c, hc with
        | 0, _ => exact ⟨_, _, _, rfl, s0⟩
        | 1, _ => exact ⟨_, _, _, rfl, s1⟩
        | 2, _ => exact ⟨_, _, _, rfl, s2⟩
        | 3, _ => exact ⟨_, _, _, rfl, s3⟩
      rintro e w2 ⟨g, rfl, hg, hrow, hb2⟩
      have hlx := x2.lt
      have y2 := x2.keep hb2
      have B2 := bcall B1 hb2
      have hlt : W.heap.size + 1 + 1 ≠ g := by omega
      have hle : W.heap.size ≤ g := by omega
      have Hlt := Lib.hid (And.intro hlt hle)
      clear hlt hle hg hlx
      obtain ⟨q2, f2, l2⟩ := y2.all
      go_wp2_with fail
      refine bodyPost_ret (v := .tuple #[.agg #[.int .i64 x, .int .i64 y, .int .i64 w, .int .i64 h, .slice (some ⟨g, 0, none⟩) (4 * M) (4 * M)], .int .i64 0]) (by simp [results, Try.results28, go_sem, q2]) rfl ⟨g, rfl, Hlt.out.2, ?_, ?_⟩
      · have hlt := Hlt.out.1
        exact Row.other' hlt (Row.other' hlt (Row.other' hlt (Row.other' hlt (Row.other' hlt hrow))))
      · exact bput (by omega) (bput (by omega) (bput (by omega) (bput (by omega) (bput (by omega) B2))))
end Go.Proofs.Ytoffnmpnhddaiaa
