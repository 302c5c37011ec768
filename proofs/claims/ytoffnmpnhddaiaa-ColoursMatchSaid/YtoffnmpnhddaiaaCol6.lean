/- scope.repainted, for whatever closure. -/
import Derived.Test.YtoffnmpnhddaiaaCol1
import Derived.Test.YtoffnmpnhddaiaaEch
import Derived.RegionTactic
namespace Go.Proofs.Ytoffnmpnhddaiaa
open Go.RowKit

/-- A closure that repaints pixel j * w + i of a frame. -/
structure Paints (W : World) (cf : FuncId) (cap : Array Value) (x y : Int) (w h a b c : Nat) (xs : List Nat) (P : Nat → Nat → Nat) : Prop where
  enter : ∀ (args : Array Value) (u : World), (callFunc cf args).run Try.prog u = .ok (.enter cf args) u
  paints : ∀ (i j : Nat) (X Y : Int) (u : World), i < w → j < h → X = x + i → Y = y + j → Below W.heap.size W u →
    Calls Try.prog cf (#[.int .i64 X, .int .i64 Y, .float .f32 (lumaV a b c fun k => xs.getD (4 * (j * w + i) + k) 0), .agg #[.float .f32 (xs.getD (4 * (j * w + i)) 0), .float .f32 (xs.getD (4 * (j * w + i) + 1) 0), .float .f32 (xs.getD (4 * (j * w + i) + 2) 0), .float .f32 (xs.getD (4 * (j * w + i) + 3) 0)]] ++ cap) u fun e u' =>
      e = .returned (.agg #[.float .f32 (P (j * w + i) 0), .float .f32 (P (j * w + i) 1), .float .f32 (P (j * w + i) 2), .float .f32 (P (j * w + i) 3)]) ∧ Below u.heap.size u u'
theorem Paints.keep {W W' : World} {cf : FuncId} {cap : Array Value} {x y : Int} {w h a b c : Nat} {xs : List Nat} {P : Nat → Nat → Nat} (m : Paints W cf cap x y w h a b c xs P) (hb : Below W.heap.size W W') : Paints W' cf cap x y w h a b c xs P :=
  ⟨m.enter, fun i j X Y u hi hj hX hY hu => m.paints i j X Y u hi hj hX hY (hb.trans (hu.mono hb.size))⟩

theorem madeL_at (P : Nat → Nat → Nat) (n k : Nat) (h : k < n) : (madeL P n).getD k 0 = canon (P (k / 4) (k % 4)) := by simp [madeL, h]

set_option maxRecDepth 100000 in
set_option maxHeartbeats 2000000 in
theorem scope_repainted (x y : Int) (w h M N b o n c wa wb_ wc : Nat) (cf : FuncId) (cap : Array Value) (xs : List Nat) (P : Nat → Nat → Nat) (W : World) (x1 : -4000000 ≤ x) (x2 : x ≤ 4000000) (y1 : -4000000 ≤ y) (y2 : y ≤ 4000000) (hw1 : 0 < w) (hw : w ≤ 256) (hh1 : 0 < h) (hh : h ≤ 256)
    (hM : M = w * h) (hM2 : M ≤ 65536) (hn : n = 4 * M) (hN : N = 4 * M) (hnc : n ≤ c) (hxs : xs.length = n) (hrd : Rd W b o xs) (hP : Paints W cf cap x y w h wa wb_ wc xs P) :
    Calls Try.prog 116 #[.agg #[.int .i64 x, .int .i64 y, .int .i64 w, .int .i64 h, .slice (some ⟨b, o, none⟩) n c], .agg #[.float .f32 wa, .float .f32 wb_, .float .f32 wc], .func (.func cf) #[] cap] W fun e w' =>
      ∃ g, e = .returned (.agg #[.int .i64 x, .int .i64 y, .int .i64 w, .int .i64 h, .slice (some ⟨g, 0, none⟩) N N]) ∧ W.heap.size ≤ g ∧ Row w' g N (madeL P N) ∧ Below W.heap.size W w' := by
  obtain rfl : N = n := by omega
  have hmk := fun w => run_makeF w N (by omega)
  have Hn := Lib.hid (And.intro hM (And.intro hn hxs))
  have hNb : N ≤ 262144 := by omega
  have hbl := hrd.lt
  have hcf := hP.enter
  clear hM hn hN hxs
  go_enter Try.func116, Try.ntmps116
  go_upto_region 1 with fail
  refine name_world ?_
  intro w1 hw1_
  have y3 : Bx w1 W.heap.size 26 #[.int .i64 x, .int .i64 y, .int .i64 w, .int .i64 h, .slice (some ⟨b, o, none⟩) N c] := by rw [hw1_]; exact Bx.alloc (Bx.alloc (Bx.new _ _ _) _) _
  have y4 : Bx w1 (W.heap.size + 1) 75 #[.float .f32 wa, .float .f32 wb_, .float .f32 wc] := by rw [hw1_]; exact Bx.alloc (Bx.at _ (by simp)) _
  have y6 : Bx w1 (W.heap.size + 1 + 1) 26 #[.int .i64 0, .int .i64 0, .int .i64 0, .int .i64 0, .slice none 0 0] := by rw [hw1_]; exact Bx.at _ (by simp)
  have B1 : Below W.heap.size W w1 := by rw [hw1_]; exact bnew (bnew (bnew (Below.refl _ W)))
  clear hw1_
  obtain ⟨q3, f3, l3⟩ := y3.all
  have l6 := y6.lt
  go_region
  all_goals go_wp2_with fail
  all_goals
    refine name_world ?_
    intro wb hwb
    have E2 : Below w1.heap.size w1 wb := by rw [hwb]; exact (bnew (bnew (Below.refl _ w1))).drew
  all_goals first
    | (have x5 : Bx wb (w1.heap.size + 1) 26 #[.int .i64 x, .int .i64 y, .int .i64 w, .int .i64 h, .slice (some ⟨w1.heap.size, 0, none⟩) N N] := by rw [hwb]; exact Bx.drewN (Bx.at _ (by simp)) 1
       have row : Row wb w1.heap.size N (List.replicate N 0) := by rw [hwb]; exact Row.drewN (Row.alloc (row_at _ _ _ (by simp)) _) 1
       have hp1 : W.heap.size + 1 + 1 < w1.heap.size := by omega
       have hp2 : W.heap.size + 1 + 1 < w1.heap.size + 1 := by omega
       have hne : w1.heap.size + 1 ≠ w1.heap.size := by omega
       clear hwb
       generalize hp5 : w1.heap.size + 1 = p5 at x5 hp2 hne ⊢
       clear hp5
       generalize hpg : w1.heap.size = pg at row hp1 hne x5 ⊢)
    | (have x5 : Bx wb w1.heap.size 26 #[.int .i64 x, .int .i64 y, .int .i64 w, .int .i64 h, .slice (some ⟨w1.heap.size + 1, 0, none⟩) N N] := by rw [hwb]; exact Bx.drewN (Bx.alloc (Bx.at _ (by simp)) _) 1
       have row : Row wb (w1.heap.size + 1) N (List.replicate N 0) := by rw [hwb]; exact Row.drewN (row_at _ _ _ (by simp)) 1
       have hp1 : W.heap.size + 1 + 1 < w1.heap.size + 1 := by omega
       have hp2 : W.heap.size + 1 + 1 < w1.heap.size := by omega
       have hne : w1.heap.size ≠ w1.heap.size + 1 := by omega
       clear hwb
       generalize hpg : w1.heap.size + 1 = pg at row hp1 hne x5 ⊢
       clear hpg
       generalize hp5 : w1.heap.size = p5 at x5 hp2 hne ⊢)
  all_goals
    try clear hpg
    try clear hp5
    have z3 := y3.keep E2
    have z4 := y4.keep E2
    have z6 := y6.keep E2
    have B2 := bcall B1 E2
    clear y3 y4 y6 E2 q3 f3 l3 l6 B1 hmk
    clear w1
    obtain ⟨F, hF⟩ : ∃ F : Nat → Nat, F = fun k => canon (P (k / 4) (k % 4)) := ⟨_, rfl⟩
    have HF := Lib.hid hF
    clear hF
    go_loopw [8] (fun s wr => ∃ m : Nat, m ≤ M ∧ s = .int .i64 ((4 * m : Nat) : Int) ∧ Row wr pg N (fillTo N (4 * m) F) ∧ Bx wr p5 26 #[.int .i64 x, .int .i64 y, .int .i64 w, .int .i64 h, .slice (some ⟨pg, 0, none⟩) N N] ∧
      Bx wr W.heap.size 26 #[.int .i64 x, .int .i64 y, .int .i64 w, .int .i64 h, .slice (some ⟨b, o, none⟩) N c] ∧ Bx wr (W.heap.size + 1) 75 #[.float .f32 wa, .float .f32 wb_, .float .f32 wc] ∧
      Bx wr (W.heap.size + 1 + 1) 26 #[.int .i64 0, .int .i64 0, .int .i64 0, .int .i64 0, .slice none 0 0] ∧ Below W.heap.size W wr) (fun s _ => (4 * M + 4 - intOf s).toNat)
    case atStart => exact ⟨0, by omega, rfl, by rw [Nat.mul_zero, fillTo_zero]; exact row, x5, z3, z4, z6, B2⟩
    case round =>
      clear row x5 z3 z4 z6 B2
      obtain ⟨m, hm, rfl, hrow, z5, z3, z4, z6, hbl⟩ := hrel
      obtain ⟨q3, f3, l3⟩ := z3.all
      obtain ⟨e1, e2, e3⟩ := Hn.out
      by_cases hlt : m < M
      · have hd : decide (4 * (m : Int) + 4 ≤ (N : Int)) = true := by simp; omega
        obtain ⟨im, him⟩ : ∃ im, im = m % w := ⟨_, rfl⟩
        obtain ⟨jm, hjm⟩ : ∃ jm, jm = m / w := ⟨_, rfl⟩
        have hi9 : im < w := by rw [him]; exact Nat.mod_lt _ hw1
        have hj9 : jm < h := by rw [hjm]; exact (Nat.div_lt_iff_lt_mul hw1).2 (by rw [Nat.mul_comm]; omega)
        have hmj : jm * w + im = m := by rw [him, hjm]; exact Nat.div_add_mod' m w
        have hkx : (m : Int) % (w : Int) = (im : Int) := by rw [him]; rfl
        have hky : (m : Int) / (w : Int) = (jm : Int) := by rw [hjm]; rfl
        have hrd2 := hrd.keep hbl
        have c0 : wr.cell? ⟨b, o + 4 * m, none⟩ = some (.float .f32 (xs.getD (4 * m) 0)) := hrd2.cell (4 * m) (by rw [e3]; omega)
        have c1 : wr.cell? ⟨b, o + 4 * m + 1, none⟩ = some (.float .f32 (xs.getD (4 * m + 1) 0)) := by rw [Nat.add_assoc]; exact hrd2.cell (4 * m + 1) (by rw [e3]; omega)
        have c2 : wr.cell? ⟨b, o + 4 * m + 2, none⟩ = some (.float .f32 (xs.getD (4 * m + 2) 0)) := by rw [Nat.add_assoc]; exact hrd2.cell (4 * m + 2) (by rw [e3]; omega)
        have c3 : wr.cell? ⟨b, o + 4 * m + 3, none⟩ = some (.float .f32 (xs.getD (4 * m + 3) 0)) := by rw [Nat.add_assoc]; exact hrd2.cell (4 * m + 3) (by rw [e3]; omega)
        have hNc : 4 * m + 4 ≤ c := by omega
        have hNm : 4 * m + 4 ≤ N := by omega
        have hmi : (4 * m : Nat) ≤ 262144 := by omega
        have HX := Lib.hid (And.intro him (And.intro hjm (And.intro hkx (And.intro hky (And.intro hmj (And.intro e1 (And.intro e2 e3)))))))
        have hpt : ∀ (X Y : Int) (u : World), X = x + im → Y = y + jm → Below W.heap.size W u →
            Calls Try.prog cf (#[.int .i64 X, .int .i64 Y, .float .f32 (lumaV wa wb_ wc fun k => xs.getD (4 * m + k) 0), .agg #[.float .f32 (xs.getD (4 * m) 0), .float .f32 (xs.getD (4 * m + 1) 0), .float .f32 (xs.getD (4 * m + 2) 0), .float .f32 (xs.getD (4 * m + 3) 0)]] ++ cap) u fun e u' =>
              e = .returned (.agg #[.float .f32 (P m 0), .float .f32 (P m 1), .float .f32 (P m 2), .float .f32 (P m 3)]) ∧ Below u.heap.size u u' := by
          intro X Y u hX hY hu
          have := hP.paints im jm X Y u hi9 hj9 hX hY hu
          rw [hmj] at this
          exact this
        have hlm : ∀ u : World, Calls Try.prog 153 #[.agg #[.float .f32 wa, .float .f32 wb_, .float .f32 wc], .agg #[.float .f32 (xs.getD (4 * m) 0), .float .f32 (xs.getD (4 * m + 1) 0), .float .f32 (xs.getD (4 * m + 2) 0), .float .f32 (xs.getD (4 * m + 3) 0)]] u fun e w' => e = .returned (.float .f32 (lumaV wa wb_ wc fun k => xs.getD (4 * m + k) 0)) ∧ Below u.heap.size u w' :=
          fun u => colour_Luma wa wb_ wc (fun k => xs.getD (4 * m + k) 0) u
        generalize (lumaV wa wb_ wc fun k => xs.getD (4 * m + k) 0) = lu at hpt hlm
        generalize xs.getD (4 * m) 0 = v0 at hpt hlm c0
        generalize xs.getD (4 * m + 1) 0 = v1 at hpt hlm c1
        generalize xs.getD (4 * m + 2) 0 = v2 at hpt hlm c2
        generalize xs.getD (4 * m + 3) 0 = v3 at hpt hlm c3
        have Hpt := Lib.hid hpt
        have Hlm := Lib.hid hlm
        clear him hjm hkx hky hmj e1 e2 e3 hrd2 hpt hlm
        go_upto_region 6 with fail
        refine name_world ?_
        intro w4 hw4
        have x9 : Bx w4 wr.heap.size 35 #[.float .f32 v0, .float .f32 v1, .float .f32 v2, .float .f32 v3] := by rw [hw4]; exact Bx.new _ _ _
        have E4 : Below wr.heap.size wr w4 := by rw [hw4]; exact bnew (Below.refl _ _)
        have hszr := hbl.size
        have lrow := hrow.lt
        have lz5 := z5.lt
        have row4 := hrow.keep E4
        have u5 := z5.keep E4
        have u3 := z3.keep E4
        have u4 := z4.keep E4
        have u6 := z6.keep E4
        have B4 := bcall hbl E4
        clear hw4 q3 f3 l3 z5 z3 z4 z6 hbl hrow E4 c0 c1 c2 c3
        generalize wr.heap.size = p9 at *
        obtain ⟨q9, f9, l9⟩ := x9.all
        obtain ⟨q3, f3, l3⟩ := u3.all
        obtain ⟨q4, f4, l4⟩ := u4.all
        have hkx := HX.out.2.2.1
        have hky := HX.out.2.2.2.1
        have hk4 : (4 * (m : Int)) / 4 = (m : Int) := by omega
        have hs4 := B4.size
        refine wp_region_tail (fun z : BW w4.heap.size w4 => z.w) 26 (by kernel_rfl) (by kernel_rfl) (BW.start _ _) rfl ?_
        simp only [List.take_succ_cons, List.take_zero, List.drop_succ_cons, List.drop_zero]
        repeat (go_big_quiet_step (first
          | (go_at_call 153; exact BW.call (Nat.le_refl _) _ (Hlm.out _))
          | (exact BW.call (Nat.le_refl _) _ (Hpt.out _ _ _ (by first | rfl | omega) (by first | rfl | omega | (rw [IntWalk.wrap64_in (jm : Int) ⟨by omega, by omega⟩]; first | rfl | (rw [IntWalk.wrap64_in (y + (jm : Int)) ⟨by omega, by omega⟩])))  (B4.trans ((BW.below _).mono hs4))))))
        refine wpQuiet_nil ?_
        intro z
        have t9 := x9.keep z.below
        have t5 := u5.keep z.below
        have t3 := u3.keep z.below
        have t4 := u4.keep z.below
        have t6 := u6.keep z.below
        have trow := row4.keep z.below
        have BZ := bcall B4 z.below
        clear x9 u5 u3 u4 u6 row4 B4 q9 f9 l9 q3 f3 l3 q4 f4 l4 hkx hky hk4
        generalize z.w = w5 at *
        clear z
        obtain ⟨q9, f9, l9⟩ := t9.all
        go_upto_region 7 with fail
        obtain ⟨s9, o9⟩ := set4 t9 (.float .f32 (P m 0)) (.float .f32 (P m 1)) (.float .f32 (P m 2)) (.float .f32 (P m 3))
        refine name_world ?_
        intro w6 hw6
        rw [← hw6] at s9 o9
        clear hw6
        have hw5b := BZ.size
        have a5 := o9.bx (by omega) t5
        have a3 := o9.bx (by omega) t3
        have a4 := o9.bx (by omega) t4
        have a6 := o9.bx (by omega) t6
        have arow := o9.row (by omega) trow
        have BA := bonly BZ o9 (by omega)
        clear t9 t5 t3 t4 t6 trow BZ q9 f9 l9 o9
        obtain ⟨q9, f9, l9⟩ := s9.all
        have hix := fun k hk => run_pix_index (P m) k hk
        go_wp2_with fail
        clear q9 f9 l9 s9
        go_loopw [62] (fun s wr => ∃ k : Nat, k ≤ 4 ∧ s = .int .i64 (k : Int) ∧ Row wr pg N (fillTo N (4 * m + k) F) ∧ Bx wr p5 26 #[.int .i64 x, .int .i64 y, .int .i64 w, .int .i64 h, .slice (some ⟨pg, 0, none⟩) N N] ∧
          Bx wr W.heap.size 26 #[.int .i64 x, .int .i64 y, .int .i64 w, .int .i64 h, .slice (some ⟨b, o, none⟩) N c] ∧ Bx wr (W.heap.size + 1) 75 #[.float .f32 wa, .float .f32 wb_, .float .f32 wc] ∧
          Bx wr (W.heap.size + 1 + 1) 26 #[.int .i64 0, .int .i64 0, .int .i64 0, .int .i64 0, .slice none 0 0] ∧ Below W.heap.size W wr) (fun s _ => (4 - intOf s).toNat)
        case atStart => exact ⟨0, by omega, rfl, arow, a5, a3, a4, a6, BA⟩
        case round =>
          clear arow a5 a3 a4 a6 BA
          obtain ⟨k, hk, rfl, hrow, z5, z3, z4, z6, hbl⟩ := hrel
          by_cases hlt3 : k < 4
          · have hki : (k : Int) < 4 := by omega
            have hic := hix k hlt3
            obtain ⟨q5, f5, l5⟩ := z5.all
            have hjN : 4 * m + k < N := by omega
            have hrc := hrow.cell (4 * m + k) hjN
            have hrf := hrow.frozen (4 * m + k)
            have lg := hrow.lt
            have hsz := hbl.size
            have hFk : canon (P m k) = F (4 * m + k) := by rw [HF.out]; show _ = canon (P ((4 * m + k) / 4) ((4 * m + k) % 4)); rw [show (4 * m + k) / 4 = m by omega, show (4 * m + k) % 4 = k by omega]
            have HFk := Lib.hid hFk
            have hjI : 4 * (m : Int) + (k : Int) < (N : Int) := by omega
            clear hix hFk
            go_wp2_with fail
            refine wp_region_tail (fun z : BW wr.heap.size wr => z.w) 8 (by kernel_rfl) (by kernel_rfl) (BW.start _ _) rfl ?_
            simp only [List.take_succ_cons, List.take_zero, List.drop_succ_cons, List.drop_zero]
            repeat (go_big_quiet_step ((go_at_call 88; exact BW.call_same _ (num_Clean _ _))))
            refine wpQuiet_nil ?_
            intro z
            go_wp2_with fail
            go_roundw
            case rel =>
              refine ⟨k + 1, by omega, by go_num, ?_, (z5.below z.below l5).other _ _ hne, (z3.below z.below z3.lt).other _ _ (by dsimp only; omega), (z4.below z.below z4.lt).other _ _ (by dsimp only; omega), (z6.below z.below z6.lt).other _ _ (by dsimp only; omega), bput (by omega) (hbl.trans (z.below.mono hsz))⟩
              have h1 := (hrow.below z.below lg).store (4 * m + k) (canon (P m k))
              rw [HFk.out, fillTo_set N (4 * m + k) F hjN] at h1
              simpa [HFk.out, Nat.add_assoc] using h1
            case measure => simp [intOf]; omega
          · have hk4 : k = 4 := by omega
            subst hk4
            go_wp2_with fail
            go_roundw
            case rel => exact ⟨m + 1, by omega, by go_num, by rw [show 4 * (m + 1) = 4 * m + 4 by omega]; exact hrow, z5, z3, z4, z6, hbl⟩
            case measure => simp [intOf]; omega
      · have hmM : m = M := by omega
        have hd : decide (4 * (m : Int) + 4 ≤ (N : Int)) = false := by simp; omega
        obtain ⟨q5, f5, l5⟩ := z5.all
        obtain ⟨q6, f6, l6⟩ := z6.all
        have hrow2 : Row wr pg N (madeL P N) := by
          rw [hmM, ← e2, fillTo_full, HF.out] at hrow
          exact hrow
        clear e1 e2 e3 hmM hrow
        go_wp2_with fail
        refine bodyPost_ret (v := .agg #[.int .i64 x, .int .i64 y, .int .i64 w, .int .i64 h, .slice (some ⟨pg, 0, none⟩) N N]) (by simp [results, Try.results116, go_sem, q6]) rfl ⟨pg, rfl, by omega, ?_, ?_⟩
        · repeat (refine Row.other' (by omega) ?_)
          exact hrow2
        · repeat (refine bput (by omega) ?_)
          exact hbl
end Go.Proofs.Ytoffnmpnhddaiaa
