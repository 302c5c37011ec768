/- matteOf: a matte with a region. -/
import Derived.Test.YtoffnmpnhddaiaaMat
namespace Go.Proofs.Ytoffnmpnhddaiaa
open Go.RowKit

theorem Sl.form {w : World} {v : Value} {xs : List Nat} (h : Sl w v xs) : ∃ a n c, v = .slice a n c ∧ ((0 < n ∧ xs.length = n ∧ ∃ b o, a = some ⟨b, o, none⟩ ∧ Rd w b o xs) ∨ (n = 0 ∧ xs = [])) := by
  rcases h with ⟨b, o, c, rfl, hne, hrd⟩ | ⟨rfl, a, c, rfl⟩
  · exact ⟨_, _, _, rfl, .inl ⟨List.length_pos_iff.2 hne, rfl, b, o, rfl, hrd⟩⟩
  · exact ⟨_, _, _, rfl, .inr ⟨rfl, rfl⟩⟩

theorem Sl.some2 {w : World} {a : Option Addr} {n c : Nat} {xs : List Nat} (h : Sl w (.slice a n c) xs) (hn : 0 < n) : ∃ b o, a = some ⟨b, o, none⟩ ∧ xs.length = n ∧ Rd w b o xs := by
  rcases h with ⟨b, o, k, h1, _, h3⟩ | ⟨_, _, _, h1⟩
  · simp only [Value.slice.injEq] at h1
    obtain ⟨rfl, rfl, rfl⟩ := h1
    exact ⟨b, o, rfl, rfl, h3⟩
  · simp only [Value.slice.injEq] at h1
    omega

set_option maxRecDepth 100000 in
set_option maxHeartbeats 2000000 in
theorem law_matteOf (x y w h x2 y2 w2 h2 : Int) (M : Nat) (v : Value) (ms : List Nat) (W : World) (hs : Sl W v ms) (hM : (M : Int) = w2 * h2) (hw1 : 1 ≤ w2) (hw2 : w2 ≤ 256) (hh1 : 1 ≤ h2) (hh2 : h2 ≤ 256) :
    Calls Try.prog 47 #[.agg #[.int .i64 x, .int .i64 y, .int .i64 w, .int .i64 h, v], .agg #[.int .i64 x2, .int .i64 y2, .int .i64 w2, .int .i64 h2]] W fun e w' =>
      ∃ g, e = .returned (.agg #[.int .i64 x2, .int .i64 y2, .int .i64 w2, .int .i64 h2, .slice (some ⟨g, 0, none⟩) M M]) ∧ W.heap.size ≤ g ∧ Row w' g M (fitV ms M) ∧ Below W.heap.size W w' := by
  have hmb := mul_bd w2 h2 hw1 hw2 hh1 hh2
  have hM2 : M ≤ 65536 := by omega
  have hM1 : 1 ≤ M := by omega
  have hwr : wrap64 (w2 * h2) = (M : Int) := (wrap_mul w2 h2 hw1 hw2 hh1 hh2).trans hM.symm
  have hmk := fun w => run_makeF w M (by omega)
  obtain ⟨a, n, c, rfl, hform⟩ := hs.form
  have Hform := Lib.hid hform
  clear hmb hM hs hform
  go_enter Try.func47, Try.ntmps47
  go_wp2_with fail
  go_region
  all_goals go_wp2_with fail
  all_goals
    refine name_world ?_
    intro wb hwb
    have x0 : Bx wb W.heap.size 62 #[.int .i64 x, .int .i64 y, .int .i64 w, .int .i64 h, .slice a n c] := by rw [hwb]; exact Bx.drewN (Bx.alloc (Bx.alloc (Bx.alloc (Bx.alloc (Bx.new _ _ _) _) _) _) _) 1
    have x4 : Bx wb (W.heap.size + 1 + 1) 62 #[.int .i64 0, .int .i64 0, .int .i64 0, .int .i64 0, .slice none 0 0] := by rw [hwb]; exact Bx.drewN (Bx.alloc (Bx.alloc (Bx.at _ (by simp)) _) _) 1
    have B1 : Below W.heap.size W wb := by rw [hwb]; exact (bnew (bnew (bnew (bnew (bnew (Below.refl _ W)))))).drew
  all_goals first
    | (have x5 : Bx wb (W.heap.size + 1 + 1 + 1 + 1) 62 #[.int .i64 x2, .int .i64 y2, .int .i64 w2, .int .i64 h2, .slice (some ⟨W.heap.size + 1 + 1 + 1, 0, none⟩) M M] := by rw [hwb]; exact Bx.drewN (Bx.at _ (by simp)) 1
       have row : Row wb (W.heap.size + 1 + 1 + 1) M (List.replicate M 0) := by rw [hwb]; exact Row.drewN (Row.alloc (row_at _ _ _ (by simp)) _) 1
       have hpg : W.heap.size + 1 + 1 < W.heap.size + 1 + 1 + 1 := by omega
       have hp5 : W.heap.size + 1 + 1 < W.heap.size + 1 + 1 + 1 + 1 := by omega
       have hne : W.heap.size + 1 + 1 + 1 + 1 ≠ W.heap.size + 1 + 1 + 1 := by omega
       clear hwb
       generalize W.heap.size + 1 + 1 + 1 + 1 = p5 at *
       generalize W.heap.size + 1 + 1 + 1 = pg at *)
    | (have x5 : Bx wb (W.heap.size + 1 + 1 + 1) 62 #[.int .i64 x2, .int .i64 y2, .int .i64 w2, .int .i64 h2, .slice (some ⟨W.heap.size + 1 + 1 + 1 + 1, 0, none⟩) M M] := by rw [hwb]; exact Bx.drewN (Bx.alloc (Bx.at _ (by simp)) _) 1
       have row : Row wb (W.heap.size + 1 + 1 + 1 + 1) M (List.replicate M 0) := by rw [hwb]; exact Row.drewN (row_at _ _ _ (by simp)) 1
       have hpg : W.heap.size + 1 + 1 < W.heap.size + 1 + 1 + 1 + 1 := by omega
       have hp5 : W.heap.size + 1 + 1 < W.heap.size + 1 + 1 + 1 := by omega
       have hne : W.heap.size + 1 + 1 + 1 ≠ W.heap.size + 1 + 1 + 1 + 1 := by omega
       clear hwb
       generalize W.heap.size + 1 + 1 + 1 + 1 = pg at *
       generalize W.heap.size + 1 + 1 + 1 = p5 at *)
  all_goals
    obtain ⟨q5, f5, l5⟩ := x5.all
    go_wp2_with fail
    go_loopw [18] (fun i wr => ∃ k : Nat, k ≤ M ∧ i = .int .i64 k ∧ Row wr pg M (fillTo M k fun j => ms.getD (j % ms.length) 0) ∧ Bx wr p5 62 #[.int .i64 x2, .int .i64 y2, .int .i64 w2, .int .i64 h2, .slice (some ⟨pg, 0, none⟩) M M] ∧
      Bx wr (W.heap.size + 1 + 1) 62 #[.int .i64 0, .int .i64 0, .int .i64 0, .int .i64 0, .slice none 0 0] ∧ Bx wr W.heap.size 62 #[.int .i64 x, .int .i64 y, .int .i64 w, .int .i64 h, .slice a n c] ∧ Below W.heap.size W wr) (fun i _ => M - (intOf i).toNat)
    case atStart => exact ⟨0, by omega, rfl, by rw [fillTo_zero]; exact row, x5, x4, x0, B1⟩
    case round =>
      clear q5 f5 l5
      obtain ⟨k, hk, rfl, hrow, z5, z4, z0, hbl⟩ := hrel
      obtain ⟨q5, f5, l5⟩ := z5.all
      by_cases hlt : k < M
      · have hki : (k : Int) < (M : Int) := by omega
        obtain ⟨q0, f0, l0⟩ := z0.all
        have lg := hrow.lt
        have hsz := hbl.size
        rcases Hform.out with ⟨hn, hms, b, o, rfl, hrd⟩ | ⟨rfl, rfl⟩
        · have hm1 : 0 ≤ (k : Int) % (n : Int) := Int.emod_nonneg _ (by omega)
          have hm2 : (k : Int) % (n : Int) < (n : Int) := Int.emod_lt_of_pos _ (by omega)
          have s1 := hrd.keep hbl
          have hc := s1.cell (k % n) (by rw [hms]; exact Nat.mod_lt k hn)
          have hbb := s1.lt
          have hrc := hrow.cell k hlt
          have hrf := hrow.frozen k
          have Hms := Lib.hid hms
          clear hms hrd
          go_wp2_with fail
          refine wp_region_tail (fun z : BW wr.heap.size wr => z.w) 12 (by kernel_rfl) (by kernel_rfl) (BW.start _ _) rfl ?_
          simp only [List.take_succ_cons, List.take_zero, List.drop_succ_cons, List.drop_zero]
          repeat (go_big_quiet_step (fail))
          refine wpQuiet_nil ?_
          intro z
          go_wp2_with fail
          go_roundw
          case rel =>
            refine ⟨k + 1, by omega, by go_num, ?_, (z5.below z.below l5).other _ _ hne, (z4.below z.below z4.lt).other _ _ (by dsimp only; omega), (z0.below z.below z0.lt).other _ _ (by dsimp only; omega), bput (by omega) (hbl.trans (z.below.mono hsz))⟩
            have h1 := (hrow.below z.below lg).store k (ms.getD (k % n) 0)
            rw [← Hms.out] at h1
            rw [fillTo_set M k (fun j => ms.getD (j % ms.length) 0) hlt] at h1
            simpa [Hms.out] using h1
          case measure => simp [intOf]; omega
        · go_wp2_with fail
          go_roundw
          case rel =>
            refine ⟨k + 1, by omega, by go_num, ?_, z5, z4, z0, hbl⟩
            have h1 : fillTo M k (fun j => ([] : List Nat).getD (j % ([] : List Nat).length) 0) = fillTo M (k + 1) (fun j => ([] : List Nat).getD (j % ([] : List Nat).length) 0) := by simp [fillTo]
            rw [← h1]; exact hrow
          case measure => simp [intOf]; omega
      · have hkN : k = M := by omega
        subst hkN
        obtain ⟨q4, f4, l4⟩ := z4.all
        rw [fillTo_full] at hrow
        go_wp2_with fail
        refine bodyPost_ret (v := .agg #[.int .i64 x2, .int .i64 y2, .int .i64 w2, .int .i64 h2, .slice (some ⟨pg, 0, none⟩) k k]) (by simp [results, Try.results47, go_sem, q4]) rfl ⟨pg, rfl, by omega, ?_, ?_⟩
        · repeat (refine Row.other' (by omega) ?_)
          exact hrow
        · repeat (refine bput (by omega) ?_)
          exact hbl
end Go.Proofs.Ytoffnmpnhddaiaa
