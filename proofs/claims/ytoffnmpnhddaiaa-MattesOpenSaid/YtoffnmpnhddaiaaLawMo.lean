/- MattesOpen, walked. -/
import Derived.Test.YtoffnmpnhddaiaaMtS
import Derived.Test.YtoffnmpnhddaiaaOpnI
import Derived.BigRegion
namespace Go.Proofs.Ytoffnmpnhddaiaa
open Go.RowKit

/-- The share that level i gives. -/
def lev (ns : List Int) (i : Nat) : Nat := (bits .and .i64 (ns.getD (i % ns.length) 0) 1023).toNat
theorem lev_bd (ns : List Int) (i : Nat) : lev ns i ≤ 1024 := by
  have := and_small (ns.getD (i % ns.length) 0) 1023 (by omega) (by omega)
  unfold lev; omega
theorem SlI.form {w : World} {v : Value} {ns : List Int} (h : SlI w v ns) : ∃ a n c, v = .slice a n c ∧ ((0 < n ∧ ns.length = n ∧ ∃ b o, a = some ⟨b, o, none⟩ ∧ b < w.heap.size ∧ ∀ k, k < n → w.cell? ⟨b, o + k, none⟩ = some (.int .i64 (ns.getD k 0))) ∨ (n = 0 ∧ ns = [])) := by
  rcases h with ⟨b, o, c, rfl, hne, hb, hrd⟩ | ⟨rfl, a, c, rfl⟩
  · exact ⟨_, _, _, rfl, .inl ⟨List.length_pos_iff.2 hne, rfl, b, o, rfl, hb, hrd⟩⟩
  · exact ⟨_, _, _, rfl, .inr ⟨rfl, rfl⟩⟩
theorem lev_nil (i : Nat) : lev [] i = 0 := by
  unfold lev
  simp only [List.getD_nil]
  decide
theorem lev_int (ns : List Int) (i : Nat) : bits .and .i64 (ns.getD (i % ns.length) 0) 1023 = ((lev ns i : Nat) : Int) := by
  have := and_small (ns.getD (i % ns.length) 0) 1023 (by omega) (by omega)
  unfold lev; omega
/-- The picture of levels. -/
def levA (ns : List Int) (wd : Nat) (x y : Nat) : Nat := lev ns (y * wd + x)
theorem levA_grid (ns : List Int) (wd ht : Nat) : (List.range (wd * ht)).map (fun i => qW (lev ns i)) = (gridL wd ht (levA ns wd)).map qW := by
  unfold gridL levA
  rw [List.map_map]
  apply List.map_congr_left
  intro i _
  show _ = qW (lev ns (i / wd * wd + i % wd))
  rw [Nat.div_add_mod' i wd]
theorem qW_zero : qW 0 = 0 := by decide

set_option maxRecDepth 100000 in
set_option maxHeartbeats 8000000 in
theorem law_MattesOpen (x y w h : Int) (v : Value) (xs : List Nat) (lv : Value) (ns : List Int) (radius : Int) (W : World) (hs1 : Sl W v xs) (hs2 : SlI W lv ns) :
    Calls Try.prog 8 #[.agg #[.int .i64 x, .int .i64 y, .int .i64 w, .int .i64 h, v], lv, .int .i64 radius] W fun e w' =>
      e = .returned (.bool true) ∧ Below W.heap.size W w' := by
  have hv1 : v.cells = #[v] := by rcases hs1 with ⟨b, o, c, rfl, _⟩ | ⟨_, a, c, rfl⟩ <;> rfl
  have hra := and_small radius 1 (by omega) (by omega)
  obtain ⟨r, hr, hr1, hr2⟩ : ∃ r : Nat, 1 + bits .and .i64 radius 1 = (r : Int) ∧ 1 ≤ r ∧ r ≤ 2 := ⟨(1 + bits .and .i64 radius 1).toNat, by omega, by omega, by omega⟩
  have Hr := Lib.hid hr
  clear hr
  obtain ⟨la, n, lc, rfl, hform⟩ := hs2.form
  have Hform := Lib.hid hform
  clear hs2 hform
  go_enter Try.func8, Try.ntmps8
  go_wp2_with (go_at_call 15; refine (law_landed _).mono ?_; rintro e w' ⟨rfl, rfl⟩)
  refine (law_fitMatte _ _ _ _ _ _ _ (hs1.keep (bnew (Below.refl _ W)))).mono ?_
  rintro e w1 ⟨sw, sh, M0, g0, s1, s2, s3, s4, rfl, hb1⟩
  have x0 := (Bx.new W _ _).keep hb1
  have B1 := bcall (bnew (Below.refl _ W)) hb1
  clear hs1 hb1
  obtain ⟨q0, f0, l0⟩ := x0.all
  have sp1 := fitPlace_bd x
  have sp2 := fitPlace_bd y
  generalize fitPlace x = fx at *
  generalize fitPlace y = fy at *
  go_upto_region 4 with fail
  obtain ⟨z0, on1⟩ := set5 x0 (.int .i64 fx) (.int .i64 fy) (.int .i64 sw) (.int .i64 sh) (.slice (some ⟨g0, 0, none⟩) M0 M0)
  refine name_world ?_
  intro w3 hw3
  rw [← hw3] at z0 on1
  clear hw3
  have B3 := bonly B1 on1 (by omega)
  clear x0 on1 q0 f0 l0 B1
  obtain ⟨q0, f0, l0⟩ := z0.all
  go_upto_region 5 with fail
  rw [Hr.out]
  clear hra
  obtain ⟨wd, hwd⟩ : ∃ wd, wd = sw + 4 * r := ⟨_, rfl⟩
  obtain ⟨ht, hht⟩ : ∃ ht, ht = sh + 4 * r := ⟨_, rfl⟩
  have ew : (sw : Int) + 4 * (r : Int) = (wd : Int) := by omega
  have eh : (sh : Int) + 4 * (r : Int) = (ht : Int) := by omega
  have Hwh := Lib.hid (And.intro hwd (And.intro hht (And.intro ew eh)))
  clear hwd hht ew eh
  go_upto_region 6 with fail
  rw [Hwh.out.2.2.1, Hwh.out.2.2.2]
  have z1 := (z0.set 2 (.int .i64 wd)).set 3 (.int .i64 ht)
  refine name_world ?_
  intro w4 hw4
  rw [← hw4] at z1
  have B4 : Below W.heap.size W w4 := by rw [hw4]; exact bput (by omega) (bput (by omega) B3)
  clear hw4 z0 q0 f0 l0 B3
  obtain ⟨q0, f0, l0⟩ := z1.all
  have hwd3 : wd ≤ 24 := by have := Hwh.out.1; omega
  have hht3 : ht ≤ 24 := by have := Hwh.out.2.1; omega
  have hwd1 : 1 ≤ wd := by have := Hwh.out.1; omega
  have hht1 : 1 ≤ ht := by have := Hwh.out.2.1; omega
  obtain ⟨M, hM⟩ : ∃ M, M = wd * ht := ⟨_, rfl⟩
  have hMb : M ≤ 576 := by rw [hM]; exact Nat.mul_le_mul hwd3 hht3
  have hM1 : 1 ≤ M := by rw [hM]; exact Nat.mul_pos hwd1 hht1
  have hmk := fun w => run_makeF w M (by omega)
  have hMw : wrap64 ((wd : Int) * (ht : Int)) = (M : Int) := by rw [wrap_mul wd ht (by omega) (by omega) (by omega) (by omega), hM]; rfl
  have HM := Lib.hid hM
  clear hM
  go_upto_region 7 with fail
  clear hMw
  have hg := B4.size
  refine name_world ?_
  intro w5 hw5
  have z2 : Bx w5 W.heap.size 62 #[.int .i64 fx, .int .i64 fy, .int .i64 wd, .int .i64 ht, .slice (some ⟨w4.heap.size, 0, none⟩) M M] := by
    rw [hw5]; simpa using (z1.set 4 (.slice (some ⟨w4.heap.size, 0, none⟩) M M)).alloc _
  have row5 : Row w5 w4.heap.size M (fillTo M 0 fun i => qW (lev ns i)) := by
    rw [hw5, fillTo_zero]; exact row_at _ _ _ (by simp)
  have B5 : Below W.heap.size W w5 := by rw [hw5]; exact bnew (bput (by omega) B4)
  have hz1 := z1.lt
  clear hw5 z1 q0 f0 l0 B4 hmk
  generalize w4.heap.size = gm at *
  obtain ⟨q0, f0, l0⟩ := z2.all
  go_upto_region 8 with fail
  go_loopw [58] (fun s wr => ∃ k : Nat, k ≤ M ∧ s = .int .i64 (k : Int) ∧ Row wr gm M (fillTo M k fun i => qW (lev ns i)) ∧ Bx wr W.heap.size 62 #[.int .i64 fx, .int .i64 fy, .int .i64 wd, .int .i64 ht, .slice (some ⟨gm, 0, none⟩) M M] ∧ Below W.heap.size W wr) (fun s _ => (M - intOf s).toNat)
  case atStart => exact ⟨0, by omega, rfl, row5, z2, B5⟩
  case round =>
    clear q0 f0 l0 z2 row5 B5
    obtain ⟨k, hk, rfl, hrow, z2, hbl⟩ := hrel
    by_cases hlt : k < M
    · obtain ⟨q0, f0, l0⟩ := z2.all
      have hrc := hrow.cell k hlt
      have hrf := hrow.frozen k
      have lg := hrow.lt
      have hki : (k : Int) < (M : Int) := by omega
      have hsz := hbl.size
      rcases Hform.out with ⟨hn, hns, b, o, rfl, hbb, hcl⟩ | ⟨rfl, rfl⟩
      · have hm1 : 0 ≤ (k : Int) % (n : Int) := Int.emod_nonneg _ (by omega)
        have hm2 : (k : Int) % (n : Int) < (n : Int) := Int.emod_lt_of_pos _ (by omega)
        have hc1 := hcl (k % n) (Nat.mod_lt k hn)
        have hc2 : wr.cell? ⟨b, o + k % n, none⟩ = some (.int .i64 (ns.getD (k % n) 0)) := by rw [hbl.cell (p := ⟨b, o + k % n, none⟩) hbb]; exact hc1
        have hbw : b < wr.heap.size := by omega
        have hli := lev_int ns k
        rw [hns] at hli
        have hq := fun w => run_float_arith (P := Try.prog) w .quo 33 .f32 _ _ _ (qW_quo (lev ns k) (lev_bd ns k))
        have hn0 : decide (0 < (n : Int)) = true := by simp; omega
        clear hc1 hcl hns
        generalize ns.getD (k % n) 0 = vk at hc2 hli
        generalize hlk : lev ns k = lk at hli hq
        have Hlk := Lib.hid hlk
        clear hlk
        go_wp2_with fail
        refine wp_region_tail (fun z : BW wr.heap.size wr => z.w) 14 (by kernel_rfl) (by kernel_rfl) (BW.start _ _) rfl ?_
        simp only [List.take_succ_cons, List.take_zero, List.drop_succ_cons, List.drop_zero]
        repeat (go_big_quiet_step (fail))
        refine wpQuiet_nil ?_
        intro z
        clear hli hq hc2
        go_wp2_with fail
        go_roundw
        case rel =>
          refine ⟨k + 1, by omega, by go_num, ?_, (z2.below z.below l0).other _ _ (by dsimp only; omega), bput (by omega) (hbl.trans (z.below.mono hsz))⟩
          have h1 := (hrow.below z.below lg).store k (qW (lev ns k))
          rw [← Hlk.out]
          rw [fillTo_set M k (fun i => qW (lev ns i)) hlt] at h1
          exact h1
        case measure => simp [intOf]; omega
      · go_wp2_with fail
        go_roundw
        case rel =>
          refine ⟨k + 1, by omega, by go_num, ?_, z2, hbl⟩
          have h1 : fillTo M k (fun i => qW (lev [] i)) = fillTo M (k + 1) (fun i => qW (lev [] i)) := by simp [fillTo, lev_nil, qW_zero]
          rw [← h1]; exact hrow
        case measure => simp [intOf]; omega
    · have hkM : k = M := by omega
      subst hkM
      obtain ⟨A, hA⟩ : ∃ A, A = levA ns wd := ⟨_, rfl⟩
      have hAb : ∀ x y, A x y ≤ 1024 := fun x y => by rw [hA]; exact lev_bd _ _
      have rowm : Row wr gm k ((gridL wd ht A).map qW) := by
        rw [fillTo_full] at hrow
        rw [hA, ← levA_grid, ← HM.out]
        exact hrow
      clear hrow hA
      obtain ⟨q0, f0, l0⟩ := z2.all
      go_wp2_with fail
      -- CALLS
      have Bl_0 := hbl
      have xm_0 := z2
      have rm_0 := rowm
      clear z2 hbl q0 f0 l0 hk hlt rowm
      have eM := HM.out
      have HMb := Lib.hid (And.intro eM hMb)
      clear eM
      clear hMb
      have hck : checkMatte fx fy (wd : Int) (ht : Int) k = 0 := matte_ok HM.out (by omega) (by omega) (by omega) (by omega) hwd1 hht1 (by omega) (by omega)
      have hzl : (gridL wd ht A).length = k := by rw [gridL_len, HM.out]
      have hzb : ∀ z ∈ gridL wd ht A, z ≤ 1024 := by
        intro z hz
        unfold gridL at hz
        simp only [List.mem_map] at hz
        obtain ⟨i, _, rfl⟩ := hz
        exact hAb _ _
      have htl : ((gridL wd ht A).map (1024 - ·)).map qW = (gridL wd ht fun x y => 1024 - A x y).map qW := by
        unfold gridL
        rw [List.map_map (g := fun x => 1024 - x)]
        rfl
      refine (key_Invert _ _ _ _ _ _ _ (gridL wd ht A) _ hck (by have := HMb.out.2; omega) hzl hzb rm_0.rd).mono ?_
      rw [htl]
      rintro e w6 ⟨gt, rfl, hgt, rt_0, hb6⟩
      clear hck hzl hzb htl
      have Bl_1 := bcall Bl_0 hb6
      have xm_1 := xm_0.keep hb6
      have rm_1 := rm_0.keep hb6
      clear Bl_0 xm_0 rm_0
      clear hb6
      obtain ⟨q0, f0, l0⟩ := xm_1.all
      go_wp2_with fail
      refine name_callw ?_
      intro w7 hw7
      clear q0 f0 l0
      have Bl_2 := bal Bl_1 hw7
      have xm_2 := xm_1.al hw7
      have rm_2 := rm_1.al hw7
      have rt_1 := rt_0.al hw7
      clear Bl_1 xm_1 rm_1 rt_0
      have xt_0 := bxn hw7
      have sz7 := xt_0.lt
      clear hw7
      have pq1 : wd = (sw + 2 * r) + 2 * r := by have := Hwh.out.1; omega
      have pq2 : ht = (sh + 2 * r) + 2 * r := by have := Hwh.out.2.1; omega
      have Hp1 := Lib.hid (And.intro pq1 pq2)
      clear pq1 pq2
      obtain ⟨aw, haw⟩ : ∃ aw, aw = sw + 2 * r := ⟨_, rfl⟩
      obtain ⟨ah, hah⟩ : ∃ ah, ah = sh + 2 * r := ⟨_, rfl⟩
      obtain ⟨Na, hNa⟩ : ∃ Na, Na = aw * ah := ⟨_, rfl⟩
      have pa1 : wd = aw + 2 * r := by have := Hp1.out.1; omega
      have pa2 : ht = ah + 2 * r := by have := Hp1.out.2; omega
      have b1 : 1 ≤ aw := by omega
      have b2 : 1 ≤ ah := by omega
      have b3 : aw ≤ 20 := by omega
      have b4 : ah ≤ 20 := by omega
      have hNab : Na ≤ 400 := by rw [hNa]; exact Nat.mul_le_mul b3 b4
      obtain ⟨ax, hax⟩ : ∃ ax : Int, ax = fx + r := ⟨_, rfl⟩
      obtain ⟨ay, hay⟩ : ∃ ay : Int, ay = fy + r := ⟨_, rfl⟩
      have ca1 : -1000 ≤ ax ∧ ax ≤ 1002 := by omega
      have ca2 : -1000 ≤ ay ∧ ay ≤ 1002 := by omega
      have Hax := Lib.hid (And.intro hax hay)
      clear hax hay
      have Ha := Lib.hid (And.intro haw (And.intro hah (And.intro hNa (And.intro pa1 pa2))))
      clear haw hah hNa pa1 pa2
      refine (key_Shrink_at _ _ ax ay _ _ _ _ _ Na _ _ _ A _ Hax.out.1 Hax.out.2 HM.out (by omega) (by omega) (by omega) (by omega) (by omega) (by omega) (by omega) Ha.out.2.2.2.1 Ha.out.2.2.2.2 b1 b2 Ha.out.2.2.1 hAb (Nat.le_refl _) rm_2.rd).mono ?_
      rintro e w8 ⟨ga, rfl, hga, ra_0, hb8⟩
      have Bl_3 := bcall Bl_2 hb8
      have xm_3 := xm_2.keep hb8
      have rm_3 := rm_2.keep hb8
      have rt_2 := rt_1.keep hb8
      have xt_1 := xt_0.keep hb8
      clear Bl_2 xm_2 rm_2 rt_1 xt_0
      clear hb8
      obtain ⟨q0, f0, l0⟩ := xm_3.all
      obtain ⟨q1, f1, l1⟩ := xt_1.all
      go_wp2_with fail
      refine name_callw ?_
      intro w9 hw9
      clear q0 f0 l0 q1 f1 l1
      have Bl_4 := bal Bl_3 hw9
      have xm_4 := xm_3.al hw9
      have rm_4 := rm_3.al hw9
      have rt_3 := rt_2.al hw9
      have xt_2 := xt_1.al hw9
      have ra_1 := ra_0.al hw9
      clear Bl_3 xm_3 rm_3 rt_2 xt_1 ra_0
      have xa_0 := bxn hw9
      have sz9 := xa_0.lt
      have sz9b := xt_2.lt
      clear hw9
      have hAt : ∀ x y, (fun x y => 1024 - A x y) x y ≤ 1024 := fun x y => Nat.sub_le _ _
      refine (key_Spread_at _ _ ax ay _ _ _ _ _ Na _ _ _ (fun x y => 1024 - A x y) _ Hax.out.1 Hax.out.2 HM.out (by omega) (by omega) (by omega) (by omega) (by omega) (by omega) (by omega) Ha.out.2.2.2.1 Ha.out.2.2.2.2 b1 b2 Ha.out.2.2.1 hAt (Nat.le_refl _) rt_3.rd).mono ?_
      rintro e w10 ⟨gb, rfl, hgb, rb_0, hb10⟩
      have Bl_5 := bcall Bl_4 hb10
      have xm_5 := xm_4.keep hb10
      have rm_5 := rm_4.keep hb10
      have rt_4 := rt_3.keep hb10
      have xt_3 := xt_2.keep hb10
      have ra_2 := ra_1.keep hb10
      have xa_1 := xa_0.keep hb10
      clear Bl_4 xm_4 rm_4 rt_3 xt_2 ra_1 xa_0
      clear hb10 hAt
      obtain ⟨q0, f0, l0⟩ := xm_5.all
      obtain ⟨q1, f1, l1⟩ := xt_3.all
      obtain ⟨q2, f2, l2⟩ := xa_1.all
      go_upto_region 18 with fail
      refine name_world ?_
      intro w11 hw11
      clear q0 f0 l0 q1 f1 l1 q2 f2 l2
      have Bl_6 := bal Bl_5 hw11
      have xm_6 := xm_5.al hw11
      have rm_6 := rm_5.al hw11
      have rt_5 := rt_4.al hw11
      have xt_4 := xt_3.al hw11
      have ra_3 := ra_2.al hw11
      have xa_2 := xa_1.al hw11
      have rb_1 := rb_0.al hw11
      clear Bl_5 xm_5 rm_5 rt_4 xt_3 ra_2 xa_1 rb_0
      have xb_0 := bxn hw11
      have sz11 := xb_0.lt
      clear hw11
      obtain ⟨q2, f2, l2⟩ := xa_2.all
      obtain ⟨q3, f3, l3⟩ := xb_0.all
      go_wp2_with fail
      go_loop [105] (fun s => ∃ j : Nat, j ≤ Na ∧ s = .int .i64 (j : Int)) (fun s => (Na - intOf s).toNat)
      case atStart => exact ⟨0, by omega, rfl⟩
      case round =>
        obtain ⟨j, hj, rfl⟩ := hrel
        by_cases hlt : j < Na
        · have hji : (j : Int) < (Na : Int) := by omega
          have hgl : j < aw * ah := by rw [← Ha.out.2.2.1]; exact hlt
          have c1 := ra_3.rd.cell0 j (by rw [List.length_map, gridL_len]; exact hgl)
          have c2 := rb_1.rd.cell0 j (by rw [List.length_map, gridL_len]; exact hgl)
          rw [map_getD _ _ (by rw [gridL_len]; exact hgl), gridL_at _ _ _ _ hgl] at c1 c2
          rw [ero_turn (2 * r + 1) A _ _ (by omega) hAb] at c1
          have hvb := dil_bd (2 * r + 1) (fun x y => 1024 - A x y) (by omega) (fun x y => Nat.sub_le _ _) (j % aw) (j / aw)
          generalize dil (2 * r + 1) (fun x y => 1024 - A x y) (j % aw) (j / aw) = vb at c1 c2 hvb
          have hsub := fun w => run_float_arith (P := Try.prog) w .sub 33 .f32 _ _ _ (qW_turn vb hvb)
          have hoo := qW_order (1024 - vb) (1024 - vb) (Nat.sub_le _ _) (Nat.sub_le _ _)
          rw [Nat.compare_eq_ite_lt, if_neg (Nat.lt_irrefl _), if_neg (Nat.lt_irrefl _)] at hoo
          generalize qW (1024 - vb) = qu at c1 hsub hoo
          clear hgl
          go_wp2_with fail
          go_round
          case rel => exact ⟨j + 1, by omega, by go_num⟩
          case measure => simp [intOf]; omega
        · have hjN : j = Na := by omega
          subst hjN
          clear q2 f2 l2 q3 f3 l3 hj hlt
          obtain ⟨q2, f2, l2⟩ := xa_2.all
          go_wp2_with fail
          obtain ⟨ox, hox⟩ : ∃ ox : Int, ox = ax + r := ⟨_, rfl⟩
          obtain ⟨oy, hoy⟩ : ∃ oy : Int, oy = ay + r := ⟨_, rfl⟩
          have co1 : -1000 ≤ ox ∧ ox ≤ 1004 := by omega
          have co2 : -1000 ≤ oy ∧ oy ≤ 1004 := by omega
          have Hox := Lib.hid (And.intro hox hoy)
          clear hox hoy
          obtain ⟨No, hNo⟩ : ∃ No, No = sw * sh := ⟨_, rfl⟩
          have hNob : No ≤ 256 := by rw [hNo]; exact Nat.mul_le_mul s2 s4
          have HNo := Lib.hid hNo
          clear hNo
          have hEb := ero_bd (2 * r + 1) A (by omega) hAb
          refine (key_Spread_at _ _ ox oy _ _ _ _ _ No _ _ _ (ero (2 * r + 1) A) _ Hox.out.1 Hox.out.2 Ha.out.2.2.1 (by omega) (by omega) (by omega) (by omega) (by omega) (by omega) (by omega) Ha.out.1 Ha.out.2.1 s1 s3 HNo.out hEb (Nat.le_refl _) ra_3.rd).mono ?_
          rintro e w12 ⟨go, rfl, hgo, ro_0, hb12⟩
          clear q2 f2 l2
          have Bl_7 := bcall Bl_6 hb12
          have xm_7 := xm_6.keep hb12
          have rm_7 := rm_6.keep hb12
          have rt_6 := rt_5.keep hb12
          have xt_5 := xt_4.keep hb12
          have ra_4 := ra_3.keep hb12
          have xa_3 := xa_2.keep hb12
          have rb_2 := rb_1.keep hb12
          have xb_1 := xb_0.keep hb12
          clear Bl_6 xm_6 rm_6 rt_5 xt_4 ra_3 xa_2 rb_1 xb_0
          clear hb12 hEb
          go_upto_region 27 with fail
          refine name_world ?_
          intro w13 hw13
          have Bl_8 := bal Bl_7 hw13
          have xm_8 := xm_7.al hw13
          have rm_8 := rm_7.al hw13
          have rt_7 := rt_6.al hw13
          have xt_6 := xt_5.al hw13
          have ra_5 := ra_4.al hw13
          have xa_4 := xa_3.al hw13
          have rb_3 := rb_2.al hw13
          have xb_2 := xb_1.al hw13
          have ro_1 := ro_0.al hw13
          clear Bl_7 xm_7 rm_7 rt_6 xt_5 ra_4 xa_3 rb_2 xb_1 ro_0
          have xo_0 := bxn hw13
          clear hw13
          have sz13 := xo_0.lt
          have hcA : wd = sw + 4 * r ∧ ht = sh + 4 * r ∧ ox = fx + 2 * (r : Int) ∧ oy = fy + 2 * (r : Int) := by have h1 := Hax.out; have h2 := Hox.out; have h3 := Hwh.out; omega
          have HCA := Lib.hid hcA
          clear hcA
          have hk5 : k ≤ 576 := HMb.out.2
          obtain ⟨q2, f2, l2⟩ := xo_0.all
          go_wp2_with fail
          clear q2 f2 l2
          have gx1 := xo_0
          have gx2 := xm_8
          have gr1 := ro_1
          have gr2 := rm_8
          go_loopw [17] (fun s wr => (∃ m, wr = w13.drewN m) ∧ ∃ (j : Nat) (yv : Int), j ≤ sh ∧ yv = oy + (j : Int) ∧ s = .int .i64 yv) (fun s _ => (oy + sh - intOf s).toNat)
          case atStart => exact ⟨⟨0, rfl⟩, 0, oy, by omega, by omega, rfl⟩
          case round =>
            obtain ⟨⟨m, rfl⟩, j, yv, hj, hyv, rfl⟩ := hrel
            have ux1 := gx1
            have ux2 := gx2
            obtain ⟨q2, f2, l2⟩ := ux1.all
            have Hyv := Lib.hid hyv
            by_cases hlt : j < sh
            · have hd1 : decide (yv < oy + (sh : Int)) = true := by simp; omega
              have hyb : -1000 ≤ yv ∧ yv ≤ 1100 := by omega
              clear hyv
              go_wp2_with fail
              go_loopw [18] (fun s wr => (∃ m, wr = w13.drewN m) ∧ ∃ (i : Nat) (xv : Int), i ≤ sw ∧ xv = ox + (i : Int) ∧ s = .int .i64 xv) (fun s _ => (ox + sw - intOf s).toNat)
              case atStart => exact ⟨⟨m, rfl⟩, 0, ox, by omega, by omega, rfl⟩
              case round =>
                clear q2 f2 l2 ux1 ux2
                clear m
                obtain ⟨⟨m, rfl⟩, i, xv, hi, hxv, rfl⟩ := hrel
                have ux1 := gx1
                have ux2 := gx2
                obtain ⟨q2, f2, l2⟩ := ux1.all
                obtain ⟨q3, f3, l3⟩ := ux2.all
                have Hxv := Lib.hid hxv
                by_cases hlt2 : i < sw
                · have hd2 : decide (xv < ox + (sw : Int)) = true := by simp; omega
                  have hxb : -1000 ≤ xv ∧ xv ≤ 1100 := by omega
                  obtain ⟨p1, hp1⟩ : ∃ p1, p1 = j * sw := ⟨_, rfl⟩
                  obtain ⟨n1, hn1⟩ : ∃ n1, n1 = p1 + i := ⟨_, rfl⟩
                  obtain ⟨v2, hv2⟩ : ∃ v2, v2 = 2 * r + j := ⟨_, rfl⟩
                  obtain ⟨p2, hp2⟩ : ∃ p2, p2 = v2 * wd := ⟨_, rfl⟩
                  obtain ⟨n2, hn2⟩ : ∃ n2, n2 = p2 + (2 * r + i) := ⟨_, rfl⟩
                  have hcc := HCA.out
                  have hp1b : p1 + sw ≤ No := by
                    rw [HNo.out, hp1, ← Nat.succ_mul, Nat.mul_comm sw sh]; exact Nat.mul_le_mul_right _ hlt
                  have hp2b : p2 + wd ≤ k := by
                    rw [HMb.out.1, hp2, ← Nat.succ_mul, Nat.mul_comm wd ht]; exact Nat.mul_le_mul_right _ (by omega)
                  have hn1b : n1 < No := by omega
                  have hn2b : n2 < k := by omega
                  have c1 := gr1.rd.cell0 n1 (by rw [List.length_map, gridL_len, ← HNo.out]; exact hn1b)
                  have c2 := gr2.rd.cell0 n2 (by rw [List.length_map, gridL_len, ← HMb.out.1]; exact hn2b)
                  rw [map_getD _ _ (by rw [gridL_len, ← HNo.out]; exact hn1b), gridL_at _ _ _ _ (by rw [← HNo.out]; exact hn1b)] at c1
                  rw [map_getD _ _ (by rw [gridL_len, ← HMb.out.1]; exact hn2b), gridL_at _ _ _ _ (by rw [← HMb.out.1]; exact hn2b)] at c2
                  rw [show n1 % sw = i by rw [hn1, hp1, Nat.mul_comm, Nat.mul_add_mod, Nat.mod_eq_of_lt hlt2], show n1 / sw = j by rw [hn1, hp1, Nat.mul_comm, Nat.mul_add_div (by omega), Nat.div_eq_of_lt hlt2, Nat.add_zero]] at c1
                  rw [show n2 % wd = i + 2 * r by rw [hn2, hp2, Nat.mul_comm, Nat.mul_add_mod, Nat.mod_eq_of_lt (by omega), Nat.add_comm], show n2 / wd = j + 2 * r by rw [hn2, hp2, Nat.mul_comm, Nat.mul_add_div (by omega), Nat.div_eq_of_lt (by omega), Nat.add_zero, hv2, Nat.add_comm]] at c2
                  have hle := open_le r A i j
                  have hb1 : (dil (2 * r + 1) (ero (2 * r + 1) A)) i j ≤ 1024 := dil_bd _ _ (by omega) (ero_bd _ _ (by omega) hAb) _ _
                  have hb2 : A (i + 2 * r) (j + 2 * r) ≤ 1024 := hAb _ _
                  have hoo := qW_order _ _ hb1 hb2
                  generalize (dil (2 * r + 1) (ero (2 * r + 1) A)) i j = va at c1 hle hb1 hoo
                  generalize A (i + 2 * r) (j + 2 * r) = vb at c2 hle hb2 hoo
                  have d1 : w13.cell? ⟨go, n1, none⟩ = _ := c1
                  have d2 : w13.cell? ⟨gm, n2, none⟩ = _ := c2
                  have hn1i : (n1 : Int) < (No : Int) := by omega
                  have hn2i : (n2 : Int) < (k : Int) := by omega
                  have hyq := Hyv.out
                  have hyj : yv - oy = (j : Int) := by omega
                  have hyv2 : yv - fy = (v2 : Int) := by omega
                  have t2 : (yv - oy) * (sw : Int) = (p1 : Int) := by rw [hyj, ← Int.natCast_mul, ← hp1]
                  have t6 : (yv - fy) * (wd : Int) = (p2 : Int) := by rw [hyv2, ← Int.natCast_mul, ← hp2]
                  have nb1 : 0 ≤ (yv - oy) * (sw : Int) := by rw [t2]; omega
                  have nb2 : (yv - oy) * (sw : Int) ≤ 1000 := by rw [t2]; omega
                  have nb3 : 0 ≤ (yv - fy) * (wd : Int) := by rw [t6]; omega
                  have nb4 : (yv - fy) * (wd : Int) ≤ 1000 := by rw [t6]; omega
                  have t4 : (yv - oy) * (sw : Int) + xv - ox = (n1 : Int) := by rw [t2]; omega
                  have t8 : (yv - fy) * (wd : Int) + xv - fx = (n2 : Int) := by rw [t6]; omega
                  have Eq_ := Lib.hid (And.intro t4 t8)
                  clear t2 t4 t6 t8 hyq hyj hyv2 hcc hp1 hn1 hv2 hp2 hn2 hxv c1 c2
                  have hgt : (FloatKind.f32.format.order (qW va) (qW vb) == some .gt) = false := by
                    rw [hoo]
                    rcases (by omega : va < vb ∨ va = vb) with hv | hv
                    · rw [Nat.compare_eq_ite_lt, if_pos hv]; rfl
                    · rw [Nat.compare_eq_ite_lt, if_neg (by omega), if_neg (by omega)]; rfl
                  · clear hoo hle hb1 hb2
                    generalize qW va = qa at d1 hgt
                    generalize qW vb = qb at d2 hgt
                    have e1 := Eq_.out.1
                    have e2 := Eq_.out.2
                    go_wp2_with fail
                    go_quiet (fail)
                    clear e1 e2
                    go_wp2_with fail
                    go_roundw
                    case rel => exact ⟨⟨_, rfl⟩, i + 1, xv + 1, by omega, by have := Hxv.out; omega, by go_num⟩
                    case measure => have := Hxv.out; simp [intOf]; omega
                · have hiW : i = sw := by omega
                  have hd2 : decide (xv < ox + (sw : Int)) = false := by simp; omega
                  clear hiW
                  clear hxv
                  go_wp2_with fail
                  go_roundw
                  case rel => exact ⟨⟨m, rfl⟩, j + 1, yv + 1, by omega, by have := Hyv.out; omega, by go_num⟩
                  case measure => have := Hyv.out; simp [intOf]; omega
            · have hjH : j = sh := by omega
              have hd1 : decide (yv < oy + (sh : Int)) = false := by simp; omega
              clear hjH
              clear hyv
              refine name_world ?_
              intro w14 hw14
              clear gx1 gx2 gr1 gr2
              have Bl_9 := bdr Bl_8 hw14
              have xm_9 := xm_8.dr hw14
              have rm_9 := rm_8.dr hw14
              have rt_8 := rt_7.dr hw14
              have xt_7 := xt_6.dr hw14
              have ra_6 := ra_5.dr hw14
              have xa_5 := xa_4.dr hw14
              have rb_4 := rb_3.dr hw14
              have xb_3 := xb_2.dr hw14
              have ro_2 := ro_1.dr hw14
              have xo_1 := xo_0.dr hw14
              clear Bl_8 xm_8 rm_8 rt_7 xt_6 ra_5 xa_4 rb_3 xb_2 ro_1 xo_0
              clear hw14
              obtain ⟨q2, f2, l2⟩ := xo_1.all
              go_upto_region 35 with fail
              clear q2 f2 l2
              have Hsz := Lib.hid sz13
              clear sz13
              obtain ⟨q2, f2, l2⟩ := xo_1.all
              go_wp2_with fail
              clear q2 f2 l2
              by_cases hbig : 2 * r < sw ∧ 2 * r < sh
              case neg =>
                refine (key_Shrink_empty _ _ _ _ _ _ _ _ _ HNo.out (by omega) (by omega) (by omega) (by omega) (by omega) s1 s3 (by omega) (by omega) (by omega)).mono ?_
                rintro e w15 ⟨rfl, hb15⟩
                have BE := bcall Bl_9 hb15
                clear hb15
                go_wp2_with fail
                go_ret
                exact ⟨rfl, bnew BE⟩
              obtain ⟨hbw, hbh⟩ := hbig
              obtain ⟨cw, hcw⟩ : ∃ cw, cw = sw - 2 * r := ⟨_, rfl⟩
              obtain ⟨ch, hch⟩ : ∃ ch, ch = sh - 2 * r := ⟨_, rfl⟩
              obtain ⟨Nc, hNc⟩ : ∃ Nc, Nc = cw * ch := ⟨_, rfl⟩
              obtain ⟨cx, hcx⟩ : ∃ cx : Int, cx = ox + r := ⟨_, rfl⟩
              obtain ⟨cy, hcy⟩ : ∃ cy : Int, cy = oy + r := ⟨_, rfl⟩
              have cc1 : -1000 ≤ cx ∧ cx ≤ 1006 := by omega
              have cc2 : -1000 ≤ cy ∧ cy ≤ 1006 := by omega
              have pc1 : sw = cw + 2 * r := by omega
              have pc2 : sh = ch + 2 * r := by omega
              have cw1 : 1 ≤ cw := by omega
              have ch1 : 1 ≤ ch := by omega
              have cw2 : cw ≤ 14 := by omega
              have ch2 : ch ≤ 14 := by omega
              have hNcb : Nc ≤ 196 := by rw [hNc]; exact Nat.mul_le_mul cw2 ch2
              have Hc := Lib.hid (And.intro hNc (And.intro hcx (And.intro hcy (And.intro pc1 pc2))))
              clear hcw hch hNc hcx hcy pc1 pc2 hbw hbh
              obtain ⟨O, hO⟩ : ∃ O, O = dil (2 * r + 1) (ero (2 * r + 1) A) := ⟨_, rfl⟩
              have hOb : ∀ x y, O x y ≤ 1024 := by rw [hO]; exact dil_bd _ _ (by omega) (ero_bd _ _ (by omega) hAb)
              have ro_x := ro_2
              rw [← hO] at ro_x
              clear ro_2
              refine (key_Shrink_at _ _ cx cy _ _ _ _ _ Nc _ _ _ O _ Hc.out.2.1 Hc.out.2.2.1 HNo.out (by omega) (by omega) (by omega) (by omega) (by omega) (by omega) (by omega) Hc.out.2.2.2.1 Hc.out.2.2.2.2 cw1 ch1 Hc.out.1 hOb (Nat.le_refl _) ro_x.rd).mono ?_
              rintro e w16 ⟨gc, rfl, hgc, rc_0, hb16⟩
              have ro_2 := ro_x
              clear ro_x
              have Bl_10 := bcall Bl_9 hb16
              have xm_10 := xm_9.keep hb16
              have rm_10 := rm_9.keep hb16
              have rt_9 := rt_8.keep hb16
              have xt_8 := xt_7.keep hb16
              have ra_7 := ra_6.keep hb16
              have xa_6 := xa_5.keep hb16
              have rb_5 := rb_4.keep hb16
              have xb_4 := xb_3.keep hb16
              have ro_3 := ro_2.keep hb16
              have xo_2 := xo_1.keep hb16
              clear Bl_9 xm_9 rm_9 rt_8 xt_7 ra_6 xa_5 rb_4 xb_3 ro_2 xo_1
              clear hb16
              go_upto_region 38 with fail
              refine name_world ?_
              intro w17 hw17
              have Bl_11 := bal Bl_10 hw17
              have xm_11 := xm_10.al hw17
              have rm_11 := rm_10.al hw17
              have rt_10 := rt_9.al hw17
              have xt_9 := xt_8.al hw17
              have ra_8 := ra_7.al hw17
              have xa_7 := xa_6.al hw17
              have rb_6 := rb_5.al hw17
              have xb_5 := xb_4.al hw17
              have ro_4 := ro_3.al hw17
              have xo_3 := xo_2.al hw17
              have rc_1 := rc_0.al hw17
              clear Bl_10 xm_10 rm_10 rt_9 xt_8 ra_7 xa_6 rb_5 xb_4 ro_3 xo_2 rc_0
              have xc_0 := bxn hw17
              clear hw17
              have Hs9 := Lib.hid (And.intro sz7 (And.intro sz9 (And.intro sz9b sz11)))
              clear sz7 sz9 sz9b sz11
              obtain ⟨q2, f2, l2⟩ := xc_0.all
              go_wp2_with fail
              clear q2 f2 l2
              by_cases hbig : 2 * r < cw ∧ 2 * r < ch
              case neg =>
                refine (key_Spread_empty _ _ _ _ _ _ _ _ _ Hc.out.1 (by omega) (by omega) (by omega) (by omega) (by omega) cw1 ch1 (by omega) (by omega) (by omega)).mono ?_
                rintro e w18 ⟨rfl, hb18⟩
                have BE := bcall Bl_11 hb18
                clear hb18
                go_wp2_with fail
                go_ret
                exact ⟨rfl, bnew BE⟩
              obtain ⟨hbw, hbh⟩ := hbig
              obtain ⟨tw, htw⟩ : ∃ tw, tw = cw - 2 * r := ⟨_, rfl⟩
              obtain ⟨th, hth⟩ : ∃ th, th = ch - 2 * r := ⟨_, rfl⟩
              obtain ⟨Nt, hNt⟩ : ∃ Nt, Nt = tw * th := ⟨_, rfl⟩
              obtain ⟨tx, htx⟩ : ∃ tx : Int, tx = cx + r := ⟨_, rfl⟩
              obtain ⟨ty, hty⟩ : ∃ ty : Int, ty = cy + r := ⟨_, rfl⟩
              have ct1 : -1000 ≤ tx ∧ tx ≤ 1008 := by omega
              have ct2 : -1000 ≤ ty ∧ ty ≤ 1008 := by omega
              have pt1 : cw = tw + 2 * r := by omega
              have pt2 : ch = th + 2 * r := by omega
              have tw1 : 1 ≤ tw := by omega
              have th1 : 1 ≤ th := by omega
              have tw2 : tw ≤ 12 := by omega
              have th2 : th ≤ 12 := by omega
              have hNtb : Nt ≤ 144 := by rw [hNt]; exact Nat.mul_le_mul tw2 th2
              have Ht := Lib.hid (And.intro hNt (And.intro htx (And.intro hty (And.intro pt1 pt2))))
              clear htw hth hNt htx hty pt1 pt2 hbw hbh
              have hEb := ero_bd (2 * r + 1) O (by omega) hOb
              refine (key_Spread_at _ _ tx ty _ _ _ _ _ Nt _ _ _ (ero (2 * r + 1) O) _ Ht.out.2.1 Ht.out.2.2.1 Hc.out.1 (by omega) (by omega) (by omega) (by omega) (by omega) (by omega) (by omega) Ht.out.2.2.2.1 Ht.out.2.2.2.2 tw1 th1 Ht.out.1 hEb (Nat.le_refl _) rc_1.rd).mono ?_
              rintro e w18 ⟨gw, rfl, hgw, rw_0, hb18⟩
              have Bl_12 := bcall Bl_11 hb18
              have xm_12 := xm_11.keep hb18
              have rm_12 := rm_11.keep hb18
              have rt_11 := rt_10.keep hb18
              have xt_10 := xt_9.keep hb18
              have ra_9 := ra_8.keep hb18
              have xa_8 := xa_7.keep hb18
              have rb_7 := rb_6.keep hb18
              have xb_6 := xb_5.keep hb18
              have ro_5 := ro_4.keep hb18
              have xo_4 := xo_3.keep hb18
              have rc_2 := rc_1.keep hb18
              have xc_1 := xc_0.keep hb18
              clear Bl_11 xm_11 rm_11 rt_10 xt_9 ra_8 xa_7 rb_6 xb_5 ro_4 xo_3 rc_1 xc_0
              clear hb18 hEb
              go_upto_region 41 with fail
              refine name_world ?_
              intro w19 hw19
              have Bl_13 := bal Bl_12 hw19
              have xm_13 := xm_12.al hw19
              have rm_13 := rm_12.al hw19
              have rt_12 := rt_11.al hw19
              have xt_11 := xt_10.al hw19
              have ra_10 := ra_9.al hw19
              have xa_9 := xa_8.al hw19
              have rb_8 := rb_7.al hw19
              have xb_7 := xb_6.al hw19
              have ro_6 := ro_5.al hw19
              have xo_5 := xo_4.al hw19
              have rc_3 := rc_2.al hw19
              have xc_2 := xc_1.al hw19
              have rw_1 := rw_0.al hw19
              clear Bl_12 xm_12 rm_12 rt_11 xt_10 ra_9 xa_8 rb_7 xb_6 ro_5 xo_4 rc_2 xc_1 rw_0
              have xw_0 := bxn hw19
              clear hw19
              have hcB : sw = tw + 4 * r ∧ sh = th + 4 * r ∧ tx = ox + 2 * (r : Int) ∧ ty = oy + 2 * (r : Int) := by have h1 := Hc.out; have h2 := Ht.out; omega
              have HCB := Lib.hid hcB
              clear hcB
              obtain ⟨q2, f2, l2⟩ := xw_0.all
              go_wp2_with fail
              clear q2 f2 l2
              have gx1 := xw_0
              have gx2 := xo_5
              have gr1 := rw_1
              have gr2 := ro_6
              go_loopw [21] (fun s wr => (∃ m, wr = w19.drewN m) ∧ ∃ (j : Nat) (yv : Int), j ≤ th ∧ yv = ty + (j : Int) ∧ s = .int .i64 yv) (fun s _ => (ty + th - intOf s).toNat)
              case atStart => exact ⟨⟨0, rfl⟩, 0, ty, by omega, by omega, rfl⟩
              case round =>
                obtain ⟨⟨m, rfl⟩, j, yv, hj, hyv, rfl⟩ := hrel
                have ux1 := gx1
                have ux2 := gx2
                obtain ⟨q2, f2, l2⟩ := ux1.all
                have Hyv := Lib.hid hyv
                by_cases hlt : j < th
                · have hd1 : decide (yv < ty + (th : Int)) = true := by simp; omega
                  have hyb : -1000 ≤ yv ∧ yv ≤ 1100 := by omega
                  clear hyv
                  go_wp2_with fail
                  go_loopw [22] (fun s wr => (∃ m, wr = w19.drewN m) ∧ ∃ (i : Nat) (xv : Int), i ≤ tw ∧ xv = tx + (i : Int) ∧ s = .int .i64 xv) (fun s _ => (tx + tw - intOf s).toNat)
                  case atStart => exact ⟨⟨m, rfl⟩, 0, tx, by omega, by omega, rfl⟩
                  case round =>
                    clear q2 f2 l2 ux1 ux2
                    clear m
                    obtain ⟨⟨m, rfl⟩, i, xv, hi, hxv, rfl⟩ := hrel
                    have ux1 := gx1
                    have ux2 := gx2
                    obtain ⟨q2, f2, l2⟩ := ux1.all
                    obtain ⟨q3, f3, l3⟩ := ux2.all
                    have Hxv := Lib.hid hxv
                    by_cases hlt2 : i < tw
                    · have hd2 : decide (xv < tx + (tw : Int)) = true := by simp; omega
                      have hxb : -1000 ≤ xv ∧ xv ≤ 1100 := by omega
                      obtain ⟨p1, hp1⟩ : ∃ p1, p1 = j * tw := ⟨_, rfl⟩
                      obtain ⟨n1, hn1⟩ : ∃ n1, n1 = p1 + i := ⟨_, rfl⟩
                      obtain ⟨v2, hv2⟩ : ∃ v2, v2 = 2 * r + j := ⟨_, rfl⟩
                      obtain ⟨p2, hp2⟩ : ∃ p2, p2 = v2 * sw := ⟨_, rfl⟩
                      obtain ⟨n2, hn2⟩ : ∃ n2, n2 = p2 + (2 * r + i) := ⟨_, rfl⟩
                      have hcc := HCB.out
                      have hp1b : p1 + tw ≤ Nt := by
                        rw [Ht.out.1, hp1, ← Nat.succ_mul, Nat.mul_comm tw th]; exact Nat.mul_le_mul_right _ hlt
                      have hp2b : p2 + sw ≤ No := by
                        rw [HNo.out, hp2, ← Nat.succ_mul, Nat.mul_comm sw sh]; exact Nat.mul_le_mul_right _ (by omega)
                      have hn1b : n1 < Nt := by omega
                      have hn2b : n2 < No := by omega
                      have c1 := gr1.rd.cell0 n1 (by rw [List.length_map, gridL_len, ← Ht.out.1]; exact hn1b)
                      have c2 := gr2.rd.cell0 n2 (by rw [List.length_map, gridL_len, ← HNo.out]; exact hn2b)
                      rw [map_getD _ _ (by rw [gridL_len, ← Ht.out.1]; exact hn1b), gridL_at _ _ _ _ (by rw [← Ht.out.1]; exact hn1b)] at c1
                      rw [map_getD _ _ (by rw [gridL_len, ← HNo.out]; exact hn2b), gridL_at _ _ _ _ (by rw [← HNo.out]; exact hn2b)] at c2
                      rw [show n1 % tw = i by rw [hn1, hp1, Nat.mul_comm, Nat.mul_add_mod, Nat.mod_eq_of_lt hlt2], show n1 / tw = j by rw [hn1, hp1, Nat.mul_comm, Nat.mul_add_div (by omega), Nat.div_eq_of_lt hlt2, Nat.add_zero]] at c1
                      rw [show n2 % sw = i + 2 * r by rw [hn2, hp2, Nat.mul_comm, Nat.mul_add_mod, Nat.mod_eq_of_lt (by omega), Nat.add_comm], show n2 / sw = j + 2 * r by rw [hn2, hp2, Nat.mul_comm, Nat.mul_add_div (by omega), Nat.div_eq_of_lt (by omega), Nat.add_zero, hv2, Nat.add_comm]] at c2
                      have hle := (show dil (2 * r + 1) (ero (2 * r + 1) O) i j = O (i + 2 * r) (j + 2 * r) by rw [hO]; exact open_twice r A i j)
                      have hb1 : (dil (2 * r + 1) (ero (2 * r + 1) O)) i j ≤ 1024 := dil_bd _ _ (by omega) (ero_bd _ _ (by omega) hOb) _ _
                      have hb2 : O (i + 2 * r) (j + 2 * r) ≤ 1024 := hOb _ _
                      have hoo := qW_order _ _ hb1 hb2
                      generalize (dil (2 * r + 1) (ero (2 * r + 1) O)) i j = va at c1 hle hb1 hoo
                      generalize O (i + 2 * r) (j + 2 * r) = vb at c2 hle hb2 hoo
                      have d1 : w19.cell? ⟨gw, n1, none⟩ = _ := c1
                      have d2 : w19.cell? ⟨go, n2, none⟩ = _ := c2
                      have hn1i : (n1 : Int) < (Nt : Int) := by omega
                      have hn2i : (n2 : Int) < (No : Int) := by omega
                      have hyq := Hyv.out
                      have hyj : yv - ty = (j : Int) := by omega
                      have hyv2 : yv - oy = (v2 : Int) := by omega
                      have t2 : (yv - ty) * (tw : Int) = (p1 : Int) := by rw [hyj, ← Int.natCast_mul, ← hp1]
                      have t6 : (yv - oy) * (sw : Int) = (p2 : Int) := by rw [hyv2, ← Int.natCast_mul, ← hp2]
                      have nb1 : 0 ≤ (yv - ty) * (tw : Int) := by rw [t2]; omega
                      have nb2 : (yv - ty) * (tw : Int) ≤ 1000 := by rw [t2]; omega
                      have nb3 : 0 ≤ (yv - oy) * (sw : Int) := by rw [t6]; omega
                      have nb4 : (yv - oy) * (sw : Int) ≤ 1000 := by rw [t6]; omega
                      have t4 : (yv - ty) * (tw : Int) + xv - tx = (n1 : Int) := by rw [t2]; omega
                      have t8 : (yv - oy) * (sw : Int) + xv - ox = (n2 : Int) := by rw [t6]; omega
                      have Eq_ := Lib.hid (And.intro t4 t8)
                      clear t2 t4 t6 t8 hyq hyj hyv2 hcc hp1 hn1 hv2 hp2 hn2 hxv c1 c2
                      have hv : va = vb := hle
                      · rw [Nat.compare_eq_ite_lt, if_neg (by omega), if_neg (by omega)] at hoo
                        have Hv := Lib.hid hv
                        clear hv hle
                        generalize qW va = qa at d1 hoo
                        generalize qW vb = qb at d2 hoo
                        have e1 := Eq_.out.1
                        have e2 := Eq_.out.2
                        go_wp2_with fail
                        go_quiet (fail)
                        clear e1 e2
                        go_wp2_with fail
                        go_roundw
                        case rel => exact ⟨⟨_, rfl⟩, i + 1, xv + 1, by omega, by have := Hxv.out; omega, by go_num⟩
                        case measure => have := Hxv.out; simp [intOf]; omega
                    · have hiW : i = tw := by omega
                      have hd2 : decide (xv < tx + (tw : Int)) = false := by simp; omega
                      clear hiW
                      clear hxv
                      go_wp2_with fail
                      go_roundw
                      case rel => exact ⟨⟨m, rfl⟩, j + 1, yv + 1, by omega, by have := Hyv.out; omega, by go_num⟩
                      case measure => have := Hyv.out; simp [intOf]; omega
                · have hjH : j = th := by omega
                  have hd1 : decide (yv < ty + (th : Int)) = false := by simp; omega
                  clear hjH
                  clear hyv
                  obtain ⟨q2, f2, l2⟩ := gx1.all
                  go_wp2_with fail
                  go_ret
                  exact ⟨rfl, bdr Bl_13 rfl⟩
end Go.Proofs.Ytoffnmpnhddaiaa
