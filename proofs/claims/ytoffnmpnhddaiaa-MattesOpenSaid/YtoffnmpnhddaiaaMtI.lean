/- key.Invert of a matte of shares of 1024. -/
import Derived.Test.YtoffnmpnhddaiaaMtA
namespace Go.Proofs.Ytoffnmpnhddaiaa
open Go.RowKit

def mtT : TypeId := 62
set_option maxRecDepth 100000 in
set_option maxHeartbeats 2000000 in
theorem key_Invert (x y w h : Int) (b M c : Nat) (zs : List Nat) (W : World) (hck : checkMatte x y w h M = 0) (hM2 : M ≤ 65536) (hzs : zs.length = M) (hz : ∀ z ∈ zs, z ≤ 1024) (hrd : Rd W b 0 (zs.map qW)) :
    Calls Try.prog 49 #[.agg #[.int .i64 x, .int .i64 y, .int .i64 w, .int .i64 h, .slice (some ⟨b, 0, none⟩) M c]] W fun e w' =>
      ∃ g, e = .returned (.tuple #[.agg #[.int .i64 x, .int .i64 y, .int .i64 w, .int .i64 h, .slice (some ⟨g, 0, none⟩) M M], .int .i64 0]) ∧ W.heap.size ≤ g ∧ Row w' g M ((zs.map (1024 - ·)).map qW) ∧ Below W.heap.size W w' := by
  have hmk := fun w => run_makeF w M (by omega)
  have Hzs := Lib.hid hzs
  have Hz := Lib.hid hz
  clear hzs hz
  go_enter Try.func49, Try.ntmps49
  go_wp2_with fail
  refine (key_CheckMatte _ _ _ _ _ _ _ _).mono ?_
  rw [hck]
  rintro e w1 ⟨rfl, hb1⟩
  have x0 := ((Bx.new W _ _).alloc _).keep hb1
  have x2 := (Bx.at (w := W.alloc (.cells #[.int .i64 x, .int .i64 y, .int .i64 w, .int .i64 h, .slice (some ⟨b, 0, none⟩) M c] 62)) (T := 62) (cs := #[.int .i64 0, .int .i64 0, .int .i64 0, .int .i64 0, .slice none 0 0]) (W.heap.size + 1) (by simp)).keep hb1
  have B1 := bcall (bnew (bnew (Below.refl _ W))) hb1
  have hrd1 := hrd.keep B1
  have hbW := hrd.lt
  clear hb1 hrd hck
  obtain ⟨q0, f0, l0⟩ := x0.all
  have hw1 := x2.lt
  go_wp2_with fail
  go_region
  all_goals go_wp2_with fail
  all_goals
    refine name_world ?_
    intro wb hwb
    have B2 : Below w1.heap.size w1 wb := by rw [hwb]; exact (bnew (bnew (Below.refl _ w1))).drew
  all_goals first
    | (have x5 : Bx wb (w1.heap.size + 1) 62 #[.int .i64 x, .int .i64 y, .int .i64 w, .int .i64 h, .slice (some ⟨w1.heap.size, 0, none⟩) M M] := by rw [hwb]; exact Bx.drewN (Bx.at _ (by simp)) 1
       have row : Row wb w1.heap.size M (List.replicate M 0) := by rw [hwb]; exact Row.drewN (Row.alloc (row_at _ _ _ (by simp)) _) 1
       have hp1 : w1.heap.size ≤ w1.heap.size := by omega
       have hp2 : w1.heap.size ≤ w1.heap.size + 1 := by omega
       have hne : w1.heap.size + 1 ≠ w1.heap.size := by omega
       clear hwb
       generalize hp5 : w1.heap.size + 1 = p5 at x5 hp2 hne ⊢
       clear hp5
       generalize hpg : w1.heap.size = pg at row hp1 hne x5 ⊢)
    | (have x5 : Bx wb w1.heap.size 62 #[.int .i64 x, .int .i64 y, .int .i64 w, .int .i64 h, .slice (some ⟨w1.heap.size + 1, 0, none⟩) M M] := by rw [hwb]; exact Bx.drewN (Bx.alloc (Bx.at _ (by simp)) _) 1
       have row : Row wb (w1.heap.size + 1) M (List.replicate M 0) := by rw [hwb]; exact Row.drewN (row_at _ _ _ (by simp)) 1
       have hp1 : w1.heap.size ≤ w1.heap.size + 1 := by omega
       have hp2 : w1.heap.size ≤ w1.heap.size := by omega
       have hne : w1.heap.size ≠ w1.heap.size + 1 := by omega
       clear hwb
       generalize hpg : w1.heap.size + 1 = pg at row hp1 hne x5 ⊢
       clear hpg
       generalize hp5 : w1.heap.size = p5 at x5 hp2 hne ⊢)
  all_goals
    have hgW : W.heap.size + 1 < pg := by omega
    have hpW : W.heap.size + 1 < p5 := by omega
    try clear hpg
    try clear hp5
    have y0 := x0.keep B2
    have y2 := x2.keep B2
    have rd2 := hrd1.keep B2
    have B3 := bcall B1 B2
    clear x0 x2 hrd1 B1 B2 q0 f0 l0 hw1 hp1 hp2 hmk
    clear w1
    go_loopw [24] (fun i wr => ∃ k : Nat, k ≤ M ∧ i = .int .i64 k ∧ Row wr pg M (fillTo M k fun j => qW (1024 - zs.getD j 0)) ∧ Bx wr p5 62 #[.int .i64 x, .int .i64 y, .int .i64 w, .int .i64 h, .slice (some ⟨pg, 0, none⟩) M M] ∧
      Bx wr (W.heap.size + 1) 62 #[.int .i64 0, .int .i64 0, .int .i64 0, .int .i64 0, .slice none 0 0] ∧ Rd wr b 0 (zs.map qW) ∧ Below W.heap.size W wr) (fun i _ => M - (intOf i).toNat)
    case atStart => exact ⟨0, by omega, rfl, by rw [fillTo_zero]; exact row, x5, y2, rd2, B3⟩
    case round =>
      clear row x5 y0 y2 rd2 B3
      obtain ⟨k, hk, rfl, hrow, z5, z2, hrd, hbl⟩ := hrel
      obtain ⟨q5, f5, l5⟩ := z5.all
      by_cases hlt : k < M
      · have hki : (k : Int) < (M : Int) := by omega
        have hc := hrd.cell0 k (by rw [List.length_map, Hzs.out]; omega)
        rw [map_getD _ _ (by rw [Hzs.out]; omega)] at hc
        have hrc := hrow.cell k hlt
        have hrf := hrow.frozen k
        have lg := hrow.lt
        have hsz := hbl.size
        have hz1 : zs.getD k 0 ≤ 1024 := Hz.out _ (getD_mem _ _ (by rw [Hzs.out]; omega))
        have ht := qW_turn _ hz1
        have hsub := fun w => run_float_arith (P := Try.prog) w .sub 33 .f32 _ _ _ ht
        have hcn := qW_canon (1024 - zs.getD k 0) (by omega)
        generalize hzz : zs.getD k 0 = zk at *
        have Hzz := Lib.hid hzz
        have Hcn := Lib.hid hcn
        clear ht hzz hcn
        have hClean : ∀ u : World, Calls Try.prog 88 #[.float .f32 (qW (1024 - zk))] u fun e w' => e = .returned (.float .f32 (qW (1024 - zk))) ∧ u = w' := fun u => by
          have := num_Clean (qW (1024 - zk)) u
          rwa [Hcn.out] at this
        have HCl := Lib.hid hClean
        clear hClean
        go_wp2_with fail
        refine wp_region_tail (fun z : BW wr.heap.size wr => z.w) 7 (by kernel_rfl) (by kernel_rfl) (BW.start _ _) rfl ?_
        simp only [List.take_succ_cons, List.take_zero, List.drop_succ_cons, List.drop_zero]
        repeat (go_big_quiet_step ((go_at_call 88; exact BW.call_same _ (HCl.out _))))
        refine wpQuiet_nil ?_
        intro z
        go_wp2_with fail
        go_roundw
        case rel =>
          refine ⟨k + 1, by omega, by go_num, ?_, (z5.below z.below l5).other _ _ hne, (z2.below z.below z2.lt).other _ _ (by dsimp only; omega), ((Only.refl pg _).set _ _).rd (by omega) (hrd.keep z.below), bput (by omega) (hbl.trans (z.below.mono hsz))⟩
          have h1 := (hrow.below z.below lg).store k (qW (1024 - zk))
          rw [← Hzz.out, fillTo_set M k (fun j => qW (1024 - zs.getD j 0)) hlt, Hzz.out] at h1
          simpa using h1
        case measure => simp [intOf]; omega
      · have hkN : k = M := by omega
        subst hkN
        obtain ⟨q4, f4, l4⟩ := z2.all
        rw [fillTo_full] at hrow
        go_wp2_with fail
        refine bodyPost_ret (v := .tuple #[.agg #[.int .i64 x, .int .i64 y, .int .i64 w, .int .i64 h, .slice (some ⟨pg, 0, none⟩) k k], .int .i64 0]) (by simp [results, Try.results49, go_sem, q4]) rfl ⟨pg, rfl, by omega, ?_, ?_⟩
        · repeat (refine Row.other' (by omega) ?_)
          have he : (List.range k).map (fun j => qW (1024 - zs.getD j 0)) = (zs.map (1024 - ·)).map qW := by
            apply List.ext_getElem
            · simp [Hzs.out]
            · intro i h1 h2
              simp at h1 h2
              simp [h2]
          rw [← he]
          exact hrow
        · repeat (refine bput (by omega) ?_)
          exact hbl
end Go.Proofs.Ytoffnmpnhddaiaa
