/- frame.each, for whatever closure. -/
import Derived.Test.YtjicgbpnplmpbaaDoorEach
import Derived.Test.YtjicgbpnplmpbaaDoorCln
namespace Go.Proofs.YtjicgbpnplmpbaaDoor
open Go.RowKit

/-- A closure that gives single k. -/
structure Gives (W : World) (cf : FuncId) (cap : Array Value) (N : Nat) (V : Nat → Nat) : Prop where
  enter : ∀ (args : Array Value) (u : World), (callFunc cf args).run Tryd.prog u = .ok (.enter cf args) u
  gives : ∀ (k : Nat) (u : World), k < N → Below W.heap.size W u → Calls Tryd.prog cf (#[.int .i64 (k : Int)] ++ cap) u fun e u' => e = .returned (.float .f32 (V k)) ∧ Below u.heap.size u u'

set_option maxRecDepth 100000 in
set_option maxHeartbeats 1000000 in
theorem frame_each (x y w h : Int) (M N : Nat) (cf : FuncId) (cap : Array Value) (V : Nat → Nat) (W : World) (hM : (M : Int) = w * h) (hM2 : M ≤ 65536) (hN : N = 4 * M) (hw1 : 1 ≤ w) (hw2 : w ≤ 256) (hG : Gives W cf cap N V) :
    Calls Tryd.prog 40 #[.agg #[.int .i64 x, .int .i64 y, .int .i64 w, .int .i64 h], .func (.func cf) #[] cap] W fun e w' =>
      ∃ g, e = .returned (.agg #[.int .i64 x, .int .i64 y, .int .i64 w, .int .i64 h, .slice (some ⟨g, 0, none⟩) N N]) ∧ W.heap.size ≤ g ∧ Row w' g N ((List.range N).map fun k => canon (V k)) ∧ Below W.heap.size W w' := by
  have hw4 : wrap64 (4 * w) = 4 * w := IntWalk.wrap64_in _ ⟨by omega, by omega⟩
  have hnn : 4 * w * h = (N : Int) := by rw [Int.mul_assoc, ← hM, hN]; rfl
  have hwn : wrap64 (4 * w * h) = (N : Int) := by rw [hnn]; exact IntWalk.wrap64_in _ ⟨by omega, by omega⟩
  have hcf := hG.enter
  have hN2 : N ≤ 262144 := by omega
  have HM := Lib.hid hM
  have Hnn := Lib.hid hnn
  have hmk := fun w => run_makeF w N (by omega)
  have HN := Lib.hid hN
  clear hM hnn hN
  go_enter Tryd.func40, Tryd.ntmps40
  go_wp2_with fail
  go_region
  all_goals go_wp2_with fail
  all_goals
    refine name_world ?_
    intro wb hwb
    have x4 : Bx wb (W.heap.size + 1) 26 #[.int .i64 0, .int .i64 0, .int .i64 0, .int .i64 0, .slice none 0 0] := by rw [hwb]; exact Bx.drewN (Bx.alloc (Bx.alloc (Bx.at _ (by simp)) _) _) 1
    have B1 : Below W.heap.size W wb := by rw [hwb]; exact (bnew (bnew (bnew (bnew (Below.refl _ W))))).drew
  all_goals first
    | (have x5 : Bx wb (W.heap.size + 1 + 1 + 1) 26 #[.int .i64 x, .int .i64 y, .int .i64 w, .int .i64 h, .slice (some ⟨W.heap.size + 1 + 1, 0, none⟩) N N] := by rw [hwb]; exact Bx.drewN (Bx.at _ (by simp)) 1
       have row : Row wb (W.heap.size + 1 + 1) N (List.replicate N 0) := by rw [hwb]; exact Row.drewN (Row.alloc (row_at _ _ _ (by simp)) _) 1
       have hpg : W.heap.size + 1 < W.heap.size + 1 + 1 := by omega
       have hp5 : W.heap.size + 1 < W.heap.size + 1 + 1 + 1 := by omega
       have hne : W.heap.size + 1 + 1 + 1 ≠ W.heap.size + 1 + 1 := by omega
       clear hwb
       generalize W.heap.size + 1 + 1 + 1 = p5 at *
       generalize W.heap.size + 1 + 1 = pg at *)
    | (have x5 : Bx wb (W.heap.size + 1 + 1) 26 #[.int .i64 x, .int .i64 y, .int .i64 w, .int .i64 h, .slice (some ⟨W.heap.size + 1 + 1 + 1, 0, none⟩) N N] := by rw [hwb]; exact Bx.drewN (Bx.alloc (Bx.at _ (by simp)) _) 1
       have row : Row wb (W.heap.size + 1 + 1 + 1) N (List.replicate N 0) := by rw [hwb]; exact Row.drewN (row_at _ _ _ (by simp)) 1
       have hpg : W.heap.size + 1 < W.heap.size + 1 + 1 + 1 := by omega
       have hp5 : W.heap.size + 1 < W.heap.size + 1 + 1 := by omega
       have hne : W.heap.size + 1 + 1 ≠ W.heap.size + 1 + 1 + 1 := by omega
       clear hwb
       generalize W.heap.size + 1 + 1 + 1 = pg at *
       generalize W.heap.size + 1 + 1 = p5 at *)
  all_goals
    obtain ⟨q5, f5, l5⟩ := x5.all
    go_wp2_with fail
    go_loopw [19] (fun i wr => ∃ k : Nat, k ≤ N ∧ i = .int .i64 k ∧ Row wr pg N (fillTo N k fun k => canon (V k)) ∧ Bx wr p5 26 #[.int .i64 x, .int .i64 y, .int .i64 w, .int .i64 h, .slice (some ⟨pg, 0, none⟩) N N] ∧
      Bx wr (W.heap.size + 1) 26 #[.int .i64 0, .int .i64 0, .int .i64 0, .int .i64 0, .slice none 0 0] ∧ Below W.heap.size W wr) (fun i _ => N - (intOf i).toNat)
    case atStart => exact ⟨0, by omega, rfl, by rw [fillTo_zero]; exact row, x5, x4, B1⟩
    case round =>
      clear q5 f5 l5
      obtain ⟨k, hk, rfl, hrow, z5, z4, hbl⟩ := hrel
      obtain ⟨q5, f5, l5⟩ := z5.all
      by_cases hlt : k < N
      · have hrc := hrow.cell k hlt
        have hrf := hrow.frozen k
        have hki : (k : Int) < (N : Int) := by omega
        have lg := hrow.lt
        have hsz := hbl.size
        go_wp2_with fail
        refine wp_region_tail (fun z : BW wr.heap.size wr => z.w) 8 (by kernel_rfl) (by kernel_rfl) (BW.start _ _) rfl ?_
        simp only [List.take_succ_cons, List.take_zero, List.drop_succ_cons, List.drop_zero]
        repeat (go_big_quiet_step (first
          | (go_at_call 44; exact BW.call_same _ (num_Clean _ _))
          | (exact BW.call (Nat.le_refl _) _ (hG.gives k _ hlt (hbl.trans ((BW.below _).mono hsz))))))
        refine wpQuiet_nil ?_
        intro z
        go_wp2_with fail
        go_roundw
        case rel =>
          refine ⟨k + 1, by omega, by go_num, ?_, (z5.below z.below l5).other _ _ hne, (z4.below z.below z4.lt).other _ _ (by dsimp only; omega), bput (by omega) (hbl.trans (z.below.mono hsz))⟩
          have h1 := (hrow.below z.below lg).store k (canon (V k))
          rw [fillTo_set N k (fun k => canon (V k)) hlt] at h1
          simpa using h1
        case measure => simp [intOf]; omega
      · have hkN : k = N := by omega
        subst hkN
        obtain ⟨q4, f4, l4⟩ := z4.all
        rw [fillTo_full] at hrow
        go_wp2_with fail
        refine bodyPost_ret (v := .agg #[.int .i64 x, .int .i64 y, .int .i64 w, .int .i64 h, .slice (some ⟨pg, 0, none⟩) k k]) (by simp [results, Tryd.results40, go_sem, q4]) rfl ⟨pg, rfl, by omega, ?_, ?_⟩
        · repeat (refine Row.other' (by omega) ?_)
          exact hrow
        · repeat (refine bput (by omega) ?_)
          exact hbl
end Go.Proofs.YtjicgbpnplmpbaaDoor
