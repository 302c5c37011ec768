/- frame.FromPlanes: its closure, each. -/
import Derived.Test.YtoffnmpnhddaiaaPln
import Derived.Test.YtoffnmpnhddaiaaTail
namespace Go.Proofs.Ytoffnmpnhddaiaa
open Go.RowKit

/-- A block that holds four slices of M singles. -/
def Four (w : World) (pb : Nat) (M : Nat) (F : Nat → List Nat) : Prop :=
  ∃ (ss : Array Value) (T : TypeId), Bx w pb T ss ∧ ss.size = 4 ∧ ∀ c, c < 4 → (F c).length = M ∧ ∃ g o k, ss[c]? = some (.slice (some ⟨g, o, none⟩) M k) ∧ Rd w g o (F c)
theorem Four.keep {w w' : World} {pb M : Nat} {F : Nat → List Nat} (h : Four w pb M F) (hb : Below w.heap.size w w') : Four w' pb M F := by
  obtain ⟨ss, T, h1, h2, h3⟩ := h
  refine ⟨ss, T, h1.keep hb, h2, fun c hc => ?_⟩
  obtain ⟨hl, g, o, k, e, r⟩ := h3 c hc
  exact ⟨hl, g, o, k, e, r.keep hb⟩

set_option maxRecDepth 100000 in
theorem planes_at (k pb M : Nat) (F : Nat → List Nat) (W : World) (hF : Four W pb M F) (hk : k < 4 * M) (hM : M ≤ 65536) :
    Calls Try.prog 90 #[.int .i64 (k : Int), .pointer (some ⟨pb, 0, none⟩)] W fun e w' => e = .returned (.float .f32 ((F (k % 4)).getD (k / 4) 0)) ∧ W = w' := by
  obtain ⟨ss, T, h1, h2, h3⟩ := hF
  obtain ⟨hl, g, o, cc, e, hrd⟩ := h3 (k % 4) (by omega)
  have hb := h1.lt
  have hc1 : W.cell? ⟨pb, k % 4, none⟩ = _ := (h1.all.1 (k % 4)).trans e
  have hc2 := hrd.cell (k / 4) (by rw [hl]; omega)
  have h4 : k % 4 < 4 := by omega
  have h5 : k / 4 < M := by omega
  clear h1 h2 h3 e hl
  have h6 : (k : Int) / 4 < (M : Int) := by omega
  go_enter Try.func90, Try.ntmps90
  go_wp2_with fail
  go_ret
  exact ⟨rfl, rfl⟩

theorem row_at (w : World) (n g : Nat) (h : w.heap.size = g) : Row (w.alloc (.cells (madeCells #[.float .f32 0] n) 33)) g n (List.replicate n 0) := by subst h; exact Row.made w n

set_option maxRecDepth 100000 in
set_option maxHeartbeats 1000000 in
theorem each_planes (x y w h : Int) (pb M N : Nat) (F : Nat → List Nat) (W : World) (hM : (M : Int) = w * h) (hM2 : M ≤ 65536) (hN : N = 4 * M) (hw1 : 1 ≤ w) (hw2 : w ≤ 256) (hF : Four W pb M F) :
    Calls Try.prog 89 #[.agg #[.int .i64 x, .int .i64 y, .int .i64 w, .int .i64 h], .func (.func 90) #[] #[.pointer (some ⟨pb, 0, none⟩)]] W fun e w' =>
      ∃ g, e = .returned (.agg #[.int .i64 x, .int .i64 y, .int .i64 w, .int .i64 h, .slice (some ⟨g, 0, none⟩) N N]) ∧ W.heap.size ≤ g ∧ Row w' g N ((List.range N).map fun k => canon ((F (k % 4)).getD (k / 4) 0)) ∧ Below W.heap.size W w' := by
  have hw4 : wrap64 (4 * w) = 4 * w := IntWalk.wrap64_in _ ⟨by omega, by omega⟩
  have hnn : 4 * w * h = (N : Int) := by rw [Int.mul_assoc, ← hM, hN]; rfl
  have hwn : wrap64 (4 * w * h) = (N : Int) := by rw [hnn]; exact IntWalk.wrap64_in _ ⟨by omega, by omega⟩
  have HM := Lib.hid hM
  have Hnn := Lib.hid hnn
  have hmk := fun w => run_makeF w N (by omega)
  have HN := Lib.hid hN
  clear hM hnn hN
  go_enter Try.func89, Try.ntmps89
  go_wp2_with fail
  go_region
  all_goals go_wp2_with fail
  all_goals
    refine name_world ?_
    intro wb hwb
    have x4 : Bx wb (W.heap.size + 1) 26 #[.int .i64 0, .int .i64 0, .int .i64 0, .int .i64 0, .slice none 0 0] := by rw [hwb]; exact Bx.drewN (Bx.alloc (Bx.alloc (Bx.at _ (by simp)) _) _) 1
    have B1 : Below W.heap.size W wb := by rw [hwb]; exact (bnew (bnew (bnew (bnew (Below.refl _ W))))).drew
  all_goals first
    | (have x5 : Bx wb (W.heap.size + 1 + 1 + 1) 26 #[.int .i64 x, .int .i64 y, .int .i64 w, .int .i64 h, .slice (some ⟨W.heap.size + 1 + 1, 0, none⟩) N N] := by rw [hwb]; exact Bx.drewN (Bx.at _ (by simp)) 1
       have row : Row wb (W.heap.size + 1 + 1) N (List.replicate N 0) := by rw [hwb]; exact Row.drewN (Row.alloc (row_at _ _ _ (by simp)) _) 1
       have hpg : W.heap.size + 1 < W.heap.size + 1 + 1 := by omega
       have hp5 : W.heap.size + 1 < W.heap.size + 1 + 1 + 1 := by omega
       have hne : W.heap.size + 1 + 1 + 1 ≠ W.heap.size + 1 + 1 := by omega
       clear hwb
       generalize W.heap.size + 1 + 1 + 1 = p5 at *
       generalize W.heap.size + 1 + 1 = pg at *)
    | (have x5 : Bx wb (W.heap.size + 1 + 1) 26 #[.int .i64 x, .int .i64 y, .int .i64 w, .int .i64 h, .slice (some ⟨W.heap.size + 1 + 1 + 1, 0, none⟩) N N] := by rw [hwb]; exact Bx.drewN (Bx.alloc (Bx.at _ (by simp)) _) 1
       have row : Row wb (W.heap.size + 1 + 1 + 1) N (List.replicate N 0) := by rw [hwb]; exact Row.drewN (row_at _ _ _ (by simp)) 1
       have hpg : W.heap.size + 1 < W.heap.size + 1 + 1 + 1 := by omega
       have hp5 : W.heap.size + 1 < W.heap.size + 1 + 1 := by omega
       have hne : W.heap.size + 1 + 1 ≠ W.heap.size + 1 + 1 + 1 := by omega
       clear hwb
       generalize W.heap.size + 1 + 1 + 1 = pg at *
       generalize W.heap.size + 1 + 1 = p5 at *)
  all_goals
    obtain ⟨q5, f5, l5⟩ := x5.all
    go_wp2_with fail
    go_loopw [19] (fun i wr => ∃ k : Nat, k ≤ N ∧ i = .int .i64 k ∧ Row wr pg N (fillTo N k fun k => canon ((F (k % 4)).getD (k / 4) 0)) ∧ Bx wr p5 26 #[.int .i64 x, .int .i64 y, .int .i64 w, .int .i64 h, .slice (some ⟨pg, 0, none⟩) N N] ∧
      Bx wr (W.heap.size + 1) 26 #[.int .i64 0, .int .i64 0, .int .i64 0, .int .i64 0, .slice none 0 0] ∧ Below W.heap.size W wr) (fun i _ => N - (intOf i).toNat)
    case atStart => exact ⟨0, by omega, rfl, by rw [fillTo_zero]; exact row, x5, x4, B1⟩
    case round =>
      clear q5 f5 l5
      obtain ⟨k, hk, rfl, hrow, z5, z4, hbl⟩ := hrel
      obtain ⟨q5, f5, l5⟩ := z5.all
      by_cases hlt : k < N
      · have hrc := hrow.cell k hlt
        have hrf := hrow.frozen k
        have hki : (k : Int) < (N : Int) := by omega
        have hk4 : k < 4 * M := by rw [← HN.out]; exact hlt
        have lg := hrow.lt
        have hsz := hbl.size
        go_wp2_with fail
        refine wp_region_tail (fun z : BW wr.heap.size wr => z.w) 8 (by kernel_rfl) (by kernel_rfl) (BW.start _ _) rfl ?_
        simp only [List.take_succ_cons, List.take_zero, List.drop_succ_cons, List.drop_zero]
        repeat (go_big_quiet_step (first
          | (go_at_call 90; exact BW.call_same _ (planes_at k pb M F _ (hF.keep (hbl.trans ((BW.below _).mono hsz))) hk4 hM2))
          | (go_at_call 88; exact BW.call_same _ (num_Clean _ _))))
        refine wpQuiet_nil ?_
        intro z
        go_wp2_with fail
        go_roundw
        case rel =>
          refine ⟨k + 1, by omega, by go_num, ?_, (z5.below z.below l5).other _ _ hne, (z4.below z.below z4.lt).other _ _ (by dsimp only; omega), bput (by omega) (hbl.trans (z.below.mono hsz))⟩
          have h1 := (hrow.below z.below lg).store k (canon ((F (k % 4)).getD (k / 4) 0))
          rw [fillTo_set N k (fun k => canon ((F (k % 4)).getD (k / 4) 0)) hlt] at h1
          simpa using h1
        case measure => simp [intOf]; omega
      · have hkN : k = N := by omega
        subst hkN
        obtain ⟨q4, f4, l4⟩ := z4.all
        rw [fillTo_full] at hrow
        go_wp2_with fail
        refine bodyPost_ret (v := .agg #[.int .i64 x, .int .i64 y, .int .i64 w, .int .i64 h, .slice (some ⟨pg, 0, none⟩) k k]) (by simp [results, Try.results89, go_sem, q4]) rfl ⟨pg, rfl, by omega, ?_, ?_⟩
        · repeat (refine Row.other' (by omega) ?_)
          exact hrow
        · repeat (refine bput (by omega) ?_)
          exact hbl
end Go.Proofs.Ytoffnmpnhddaiaa
