/- ChangesAreBounded, walked. -/
import Derived.Test.YtoffnmpnhddaiaaChg
import Derived.Test.YtoffnmpnhddaiaaPlCh
import Derived.Test.YtoffnmpnhddaiaaRel
import Derived.Deep.RegionWith
namespace Go.Proofs.Ytoffnmpnhddaiaa
open Go.RowKit

set_option maxRecDepth 100000 in
set_option maxHeartbeats 8000000 in
theorem law_Changes (x y w h x2 y2 w2 h2 : Int) (v v2 : Value) (xs ys : List Nat) (W : World) (hs1 : Sl W v xs) (hs2 : Sl W v2 ys) :
    Calls Try.prog 3 #[.agg #[.int .i64 x, .int .i64 y, .int .i64 w, .int .i64 h, v], .agg #[.int .i64 x2, .int .i64 y2, .int .i64 w2, .int .i64 h2, v2]] W fun e w' =>
      e = .returned (.bool true) ∧ Below W.heap.size W w' := by
  have hv1 : v.cells = #[v] := by rcases hs1 with ⟨b, o, c, rfl, _⟩ | ⟨_, a, c, rfl⟩ <;> rfl
  have hv2 : v2.cells = #[v2] := by rcases hs2 with ⟨b, o, c, rfl, _⟩ | ⟨_, a, c, rfl⟩ <;> rfl
  go_enter Try.func3, Try.ntmps3
  go_wp2_with (go_at_call 15; refine (law_landed _).mono ?_; rintro e w' ⟨rfl, rfl⟩)
  refine (law_fit _ _ _ _ _ _ _ (hs1.keep (bnew (bnew (Below.refl _ W))))).mono ?_
  rintro e w1 ⟨g1, N1, hN1, rfl, hg1, row1, hb1⟩
  have x0 := ((Bx.new W _ _).alloc _).keep hb1
  have x1 := ((Bx.at (W.heap.size + 1) (by simp))).keep hb1
  have B1 := bcall (bnew (bnew (Below.refl _ W))) hb1
  obtain ⟨q0, f0, l0⟩ := x0.all
  obtain ⟨q1, f1, l1⟩ := x1.all
  have sd1 := fitSide_bd w
  have sd2 := fitSide_bd h
  have sp1 := fitPlace_bd x
  have sp2 := fitPlace_bd y
  generalize fitSide w = fw at *
  generalize fitSide h = fh at *
  generalize fitPlace x = fx at *
  generalize fitPlace y = fy at *
  go_wp2_with fail
  obtain ⟨z0, on1⟩ := set5 x0 (.int .i64 fx) (.int .i64 fy) (.int .i64 fw) (.int .i64 fh) (.slice (some ⟨g1, 0, none⟩) N1 N1)
  refine name_world ?_
  intro w3 hw3
  rw [← hw3] at z0 on1
  clear hw3
  have z1 := on1.bx (by omega) x1
  have row3 := on1.row (by simp at hg1; omega) row1
  have B3 := bonly B1 on1 (by omega)
  have sl3 := hs2.keep B3
  clear x0 x1 q0 f0 l0 q1 f1 l1 hb1 row1 on1 hs1 hs2
  obtain ⟨q0, f0, l0⟩ := z0.all
  obtain ⟨q1, f1, l1⟩ := z1.all
  go_upto_region 4 with fail
  go_cut [23] (fun _ wx => ∃ g2 N2 xs2 ys2, ((N2 : Nat) : Int) = 4 * fw * fh ∧ W.heap.size + 2 ≤ g2 ∧ Row wx g2 N2 ys2 ∧ Bx wx W.heap.size 26 #[.int .i64 fx, .int .i64 fy, .int .i64 fw, .int .i64 fh, .slice (some ⟨g1, 0, none⟩) N1 N1] ∧
    Bx wx (W.heap.size + 1) 26 #[.int .i64 fx, .int .i64 fy, .int .i64 fw, .int .i64 fh, .slice (some ⟨g2, 0, none⟩) N2 N2] ∧ Row wx g1 N1 xs2 ∧ Below W.heap.size W wx)
  case first =>
    go_region_with (first
      | (go_at_call 16; refine (law_fit _ _ _ _ _ ys _ ?_).mono ?_; exact sl3.keep ((Below.refl _ _).drew); rintro e w4 ⟨g2, N2, hN2, rfl, hg2, row4, hb4⟩; have y0 := (show Bx w3.drew _ _ _ from z0).keep hb4; have y1 := (show Bx w3.drew _ _ _ from z1).keep hb4; have ro := (show Row w3.drew _ _ _ from row3).keep hb4; have B4 := bcall (B3.drew) hb4; obtain ⟨r0, k0, m0⟩ := y0.all; obtain ⟨r1, k1, m1⟩ := y1.all)
      | (go_at_call 17; have hf := fit_pos hN2; refine (law_like _ _ _ _ _ _ _ _ _ _ _ _ (fitV ys N2) _ ?_ (fitV_len _ _) row4.rd ?_ ?_ ?_ ?_).mono ?_; omega; omega; omega; omega; omega; rintro e w5 ⟨g3, N3, hN3, rfl, hg3, row5, hb5⟩; have a0 := y0.keep hb5; have a1 := y1.keep hb5; have ro5 := ro.keep hb5; have B5 := bcall B4 hb5; obtain ⟨t0, j0, n0⟩ := a0.all; obtain ⟨t1, j1, n1⟩ := a1.all))
    all_goals
      go_wp2_with fail
      go_meet
      obtain ⟨s1, on⟩ := set5 a1 (.int .i64 fx) (.int .i64 fy) (.int .i64 fw) (.int .i64 fh) (.slice (some ⟨g3, 0, none⟩) N3 N3)
      have hs4 := hb4.size
      simp at hg1 hg2 hs4
      have hg3' : W.heap.size + 1 ≠ g3 := by omega
      exact ⟨g3, N3, _, _, hN3, by omega, on.row (by omega) row5, on.bx (by omega) a0, s1, on.row (by omega) ro5, bonly B5 on (by omega)⟩
  case rest =>
    obtain ⟨g2, N2, xs2, ys2, hN2, hg2, row2, y0, y1, row1, B4⟩ := hcut
    obtain ⟨q0, f0, l0⟩ := y0.all
    obtain ⟨q1, f1, l1⟩ := y1.all
    obtain ⟨M, hM, hNM⟩ := four_of hN1
    obtain ⟨M2, hM2, hNM2⟩ := four_of hN2
    have hMM : M2 = M := by omega
    subst hMM
    subst hNM2
    have hN12 : N1 = 4 * M2 := hNM
    subst hN12
    have hck := checkFrame_of (fitted_ok sd1.1 sd1.2 sd2.1 sd2.2 sp1.1 sp1.2 sp2.1 sp2.2) hN1
    have HM := Lib.hid hM
    clear hM2 hN2
    obtain ⟨rx, ry, rw_, rh, m, hcv, hm, hrb, hin⟩ := changed_spec fx fy fw fh xs2 ys2 M2 (by omega) (by omega) (by omega) (by omega) (by omega) (by omega) (by omega) (by omega) hM
    obtain ⟨b1, b2, b3, b4, b5, b6, b7, b8⟩ := hrb
    have Hm := Lib.hid hm
    have Hin := Lib.hid hin
    clear hm hin
    go_wp2_with fail
    refine (scope_Changed _ _ _ _ _ _ _ _ _ _ _ M2 xs2 ys2 _ (by omega) (by omega) (by omega) (by omega) (by omega) (by omega) (by omega) (by omega) hM rfl hck row1.len row2.len row1.rd row2.rd).mono ?_
    rw [hcv]
    rintro e w5 ⟨rfl, hb5⟩
    have v0 := y0.keep hb5
    have v1 := y1.keep hb5
    have rowa := row1.keep hb5
    have rowb := row2.keep hb5
    have B5 := bcall B4 hb5
    clear q0 f0 l0 q1 f1 l1 y0 y1 row1 row2 hcv hb5
    obtain ⟨q0, f0, l0⟩ := v0.all
    obtain ⟨q1, f1, l1⟩ := v1.all
    go_wp2_with fail
    refine name_world ?_
    intro wb hwb
    have u0 := v0.alloc (.cells #[.int .i64 rx, .int .i64 ry, .int .i64 rw_, .int .i64 rh] 23)
    have u1 := v1.alloc (.cells #[.int .i64 rx, .int .i64 ry, .int .i64 rw_, .int .i64 rh] 23)
    have u2 := Bx.new w5 23 #[.int .i64 rx, .int .i64 ry, .int .i64 rw_, .int .i64 rh]
    have ra := rowa.alloc (.cells #[.int .i64 rx, .int .i64 ry, .int .i64 rw_, .int .i64 rh] 23)
    have rb := rowb.alloc (.cells #[.int .i64 rx, .int .i64 ry, .int .i64 rw_, .int .i64 rh] 23)
    have B6 := bnew (ob := .cells #[.int .i64 rx, .int .i64 ry, .int .i64 rw_, .int .i64 rh] 23) B5
    rw [← hwb] at u0 u1 u2 ra rb B6
    clear hwb v0 v1 rowa rowb B5 q0 f0 l0 q1 f1 l1
    generalize w5.heap.size = g5 at *
    obtain ⟨fwN, rfl⟩ := Int.eq_ofNat_of_zero_le (show 0 ≤ fw by omega)
    obtain ⟨fhN, rfl⟩ := Int.eq_ofNat_of_zero_le (show 0 ≤ fh by omega)
    have Hck := Lib.hid (And.intro hN1 hck)
    clear hck
    go_loopw [8, 9] (fun s8 s9 wr => ∃ j : Nat, j ≤ fhN ∧ s9 = .int .i64 (fy + j) ∧ s8 = .int .i64 (chMany fwN fhN xs2 ys2 (j * fwN)) ∧ Below wb.heap.size wb wr) (fun _ s9 _ => fhN - (intOf s9 - fy).toNat)
    case atStart => exact ⟨0, by omega, by simp, by simp [chMany_zero], Below.refl _ _⟩
    case round =>
      obtain ⟨j, hj, rfl, rfl, hbl⟩ := hrel
      have w0 := u0.keep hbl
      obtain ⟨q0, f0, l0⟩ := w0.all
      by_cases hjl : j < fhN
      · go_wp2_with fail
        obtain ⟨wo, rfl⟩ : ∃ wo : World, wo = wr := ⟨_, rfl⟩
        clear w0 q0 f0 l0
        go_loopw [8, 10] (fun s8 s10 wr => ∃ i : Nat, i ≤ fwN ∧ s10 = .int .i64 (fx + i) ∧ s8 = .int .i64 (chMany fwN fhN xs2 ys2 (j * fwN + i)) ∧ Below wb.heap.size wb wr) (fun _ s10 _ => fwN - (intOf s10 - fx).toNat)
        case atStart => exact ⟨0, by omega, by simp, rfl, hbl⟩
        case round =>
          obtain ⟨i, hi, rfl, rfl, hbr⟩ := hrel
          have z0 := u0.keep hbr
          have z1 := u1.keep hbr
          have z2 := u2.keep hbr
          obtain ⟨q0, f0, l0⟩ := z0.all
          obtain ⟨q1, f1, l1⟩ := z1.all
          obtain ⟨q2, f2, l2⟩ := z2.all
          by_cases hil : i < fwN
          · go_wp2_with fail
            clear q0 f0 l0 q1 f1 l1 q2 f2 l2 z0 z1 z2
            refine wp_region_rel 10 (relA [.agg #[.int .i64 fx, .int .i64 fy, .int .i64 fwN, .int .i64 fhN, .slice (some ⟨g1, 0, none⟩) (4 * M2) (4 * M2)], .int .i64 (fx + i), .int .i64 (fy + j), pixV xs2 (j * fwN + i),
              .agg #[.int .i64 fx, .int .i64 fy, .int .i64 fwN, .int .i64 fhN, .slice (some ⟨g2, 0, none⟩) (4 * M2) (4 * M2)], .int .i64 (fx + i), .int .i64 (fy + j), pixV ys2 (j * fwN + i)]
              35 #[.float .f32 0, .float .f32 0, .float .f32 0, .float .f32 0] wb.heap.size (fun i => i == 8 || i == 9)) (fun i => i == 8 || i == 9) (fun w => Below wb.heap.size wb w) (by kernel_rfl) (by kernel_rfl)
              (fun _ _ h e => e.trans (h.mono e.size)) relA_keep hbr.drew ?_ ?_
            · intro t op ht hop
              rcases (by omega : t = 0 ∨ t = 1 ∨ t = 2 ∨ t = 3 ∨ t = 4 ∨ t = 5 ∨ t = 6 ∨ t = 7 ∨ t = 8 ∨ t = 9) with rfl | rfl | rfl | rfl | rfl | rfl | rfl | rfl | rfl | rfl
              all_goals simp only [List.getElem?_cons_zero, List.getElem?_cons_succ, Option.some.injEq] at hop
              all_goals subst hop
              all_goals intro a wx hE hag hdep
              · obtain ⟨q0, _, _⟩ := (u0.keep hE).all
                have e := slot_eq (hag 2 rfl)
                refine rel_pure _ rfl rfl ?_
                simp [go_sem, e, q0]
              · have e := slot_eq (hag 10 rfl)
                exact rel_pure _ rfl rfl (by simp [go_sem, e])
              · have e := slot_eq (hag 9 rfl)
                exact rel_pure _ rfl rfl (by simp [go_sem, e])
              · have e0 := slot_eq (hdep ⟨0, .data⟩ (by simp) rfl)
                have e1 := slot_eq (hdep ⟨1, .data⟩ (by simp) rfl)
                have e2 := slot_eq (hdep ⟨2, .data⟩ (by simp) rfl)
                refine rel_call (f := 19) (args := #[.agg #[.int .i64 fx, .int .i64 fy, .int .i64 fwN, .int .i64 fhN, .slice (some ⟨g1, 0, none⟩) (4 * M2) (4 * M2)], .int .i64 (fx + i), .int .i64 (fy + j)]) (run_go_call Try.func19 (by kernel_rfl) (by kernel_rfl) _ _ _ _ _ _ _ _ _ _ (by simp [Act.eval, e0, e1, e2])) rfl ?_
                have hp := ref_PixelAt fx fy fwN fhN (fx + i) (fy + j) g1 0 (4 * M2) (4 * M2) xs2 wx (by omega) (by omega) (by omega) (by omega) (by omega) (by omega) (by omega) (by omega) (by rw [← Hck.out.1]) (Nat.le_refl _) ra.len ((ra.keep hE).rd)
                rw [pixNo_at fx fy fwN fhN i j hil hjl] at hp
                exact hp.mono fun e w' ⟨he, hb⟩ => ⟨_, he, rfl, hb⟩
              · obtain ⟨q1, _, _⟩ := (u1.keep hE).all
                have e := slot_eq (hag 3 rfl)
                refine rel_pure _ rfl rfl ?_
                simp [go_sem, e, q1]
              · have e := slot_eq (hag 10 rfl)
                exact rel_pure _ rfl rfl (by simp [go_sem, e])
              · have e := slot_eq (hag 9 rfl)
                exact rel_pure _ rfl rfl (by simp [go_sem, e])
              · have e0 := slot_eq (hdep ⟨4, .data⟩ (by simp) rfl)
                have e1 := slot_eq (hdep ⟨5, .data⟩ (by simp) rfl)
                have e2 := slot_eq (hdep ⟨6, .data⟩ (by simp) rfl)
                refine rel_call (f := 19) (args := #[.agg #[.int .i64 fx, .int .i64 fy, .int .i64 fwN, .int .i64 fhN, .slice (some ⟨g2, 0, none⟩) (4 * M2) (4 * M2)], .int .i64 (fx + i), .int .i64 (fy + j)]) (run_go_call Try.func19 (by kernel_rfl) (by kernel_rfl) _ _ _ _ _ _ _ _ _ _ (by simp [Act.eval, e0, e1, e2])) rfl ?_
                have hp := ref_PixelAt fx fy fwN fhN (fx + i) (fy + j) g2 0 (4 * M2) (4 * M2) ys2 wx (by omega) (by omega) (by omega) (by omega) (by omega) (by omega) (by omega) (by omega) (by rw [← Hck.out.1]) (Nat.le_refl _) rb.len ((rb.keep hE).rd)
                rw [pixNo_at fx fy fwN fhN i j hil hjl] at hp
                exact hp.mono fun e w' ⟨he, hb⟩ => ⟨_, he, rfl, hb⟩
              · exact rel_alloc _ (by simp [go_sem]) ⟨_, rfl, hE.size, Bx.new _ _ _⟩
              · exact rel_alloc _ (by simp [go_sem]) ⟨_, rfl, hE.size, Bx.new _ _ _⟩
            · intro vs wx hE hvs hne
              have k3 : vs 3 = _ := hvs 3 (by omega)
              have k7 : vs 7 = _ := hvs 7 (by omega)
              obtain ⟨gp, k8, hgp, bp⟩ := hvs 8 (by omega)
              obtain ⟨gq, k9, hgq, bq⟩ := hvs 9 (by omega)
              have hpq : gp ≠ gq := fun e => hne 8 9 (by omega) (by omega) (by omega) rfl rfl (by rw [k8, k9, e])
              simp only [List.drop_succ_cons, List.drop_zero, putAll, dstAt, List.getElem?_toArray, List.getElem?_cons_zero, List.getElem?_cons_succ, Option.bind_some, Act.put, List.setIfInBounds_toArray, List.set_cons_zero, List.set_cons_succ, k3, k7, k8, k9, pixV]
              generalize vs 0 = v0; generalize vs 1 = v1; generalize vs 2 = v2_; generalize vs 4 = v4; generalize vs 5 = v5; generalize vs 6 = v6
              clear hvs hne k3 k7 k8 k9
              obtain ⟨qp, fp, lp⟩ := bp.all
              obtain ⟨qq, fq, lq⟩ := bq.all
              go_wp2_with fail
              obtain ⟨bp1, on1⟩ := set4 bp (.float .f32 (xs2.getD (4 * (j * fwN + i)) 0)) (.float .f32 (xs2.getD (4 * (j * fwN + i) + 1) 0)) (.float .f32 (xs2.getD (4 * (j * fwN + i) + 2) 0)) (.float .f32 (xs2.getD (4 * (j * fwN + i) + 3) 0))
              obtain ⟨bq1, on2⟩ := set4 (on1.bx (Ne.symm hpq) bq) (.float .f32 (ys2.getD (4 * (j * fwN + i)) 0)) (.float .f32 (ys2.getD (4 * (j * fwN + i) + 1) 0)) (.float .f32 (ys2.getD (4 * (j * fwN + i) + 2) 0)) (.float .f32 (ys2.getD (4 * (j * fwN + i) + 3) 0))
              have bp2 := on2.bx hpq bp1
              have hE2 := (hE.trans (on1.below hgp)).trans (on2.below hgq)
              refine name_world ?_
              intro wl hwl
              simp only [List.getD_eq_getElem?_getD] at bp2 bq1 hE2
              rw [← hwl] at bp2 bq1 hE2
              clear hwl bp1 on1 on2 bp bq qp fp lp qq fq lq hE
              obtain ⟨k, hk⟩ : ∃ k, k = j * fwN + i := ⟨_, rfl⟩
              rw [← hk] at bp2 bq1 ⊢
              have hkM : k < M2 := by rw [hk]; exact pix_lt hil hjl hM
              have hMb := mul_bd fwN fhN (by omega) (by omega) (by omega) (by omega)
              rw [← hM] at hMb
              have hcb := chMany_bd fwN fhN xs2 ys2 k
              have Hk := Lib.hid hk
              clear hk
              go_loopw [13, 69] (fun s i wr => ∃ c : Nat, c ≤ 4 ∧ i = .int .i64 c ∧ s = .bool (!sameTo xs2 ys2 k c) ∧ ∃ m, wr = wl.drewN m) (fun _ i _ => 4 - (intOf i).toNat)
              case atStart => exact ⟨0, by omega, rfl, rfl, 0, rfl⟩
              case round =>
                obtain ⟨c, hc, rfl, rfl, m', rfl⟩ := hrel
                by_cases hlc : c < 4
                · have hs : sameTo xs2 ys2 k (c + 1) = (sameTo xs2 ys2 k c && samePix xs2 ys2 k c) := rfl
                  have Hs := Lib.hid hs
                  clear hs
                  have e1 : wl.cell? ⟨gp, c, none⟩ = _ := (bp2.all.1 c).trans (pixC_at xs2 k c hlc)
                  have e2 : wl.cell? ⟨gq, c, none⟩ = _ := (bq1.all.1 c).trans (pixC_at ys2 k c hlc)
                  obtain ⟨s, hs⟩ : ∃ s, s = sameTo xs2 ys2 k c := ⟨_, rfl⟩
                  rw [← hs] at Hs ⊢
                  clear hs
                  cases s
                  · simp only [Bool.not_false]
                    go_wp2_with fail
                    go_quiet ((go_at_call 20; exact quiet_sameN (ref_Bit _ _ _)))
                    go_wp2_with fail
                    go_roundw
                    case rel => exact ⟨c + 1, by omega, by go_num, by rw [Hs.out]; rfl, _, rfl⟩
                    case measure => simp [intOf]; omega
                  · simp only [Bool.not_true]
                    go_wp2_with fail
                    go_quiet ((go_at_call 20; exact quiet_sameN (ref_Bit _ _ _)))
                    go_wp2_with fail
                    go_roundw
                    case rel => exact ⟨c + 1, by omega, by go_num, by rw [Hs.out, Bool.true_and]; rfl, _, rfl⟩
                    case measure => simp [intOf]; omega
                · have hc4 : c = 4 := by omega
                  subst hc4
                  have hst := chMany_succ fwN fhN xs2 ys2 k
                  have hin := Hin.out k hkM
                  obtain ⟨pm, pd⟩ := pix_mod (j := j) hil
                  rw [← Hk.out] at pm pd
                  rw [pm, pd] at hin
                  have Hst := Lib.hid hst
                  have Hin2 := Lib.hid hin
                  clear hst hin pm pd
                  have z2 := u2.below hE2 u2.lt
                  obtain ⟨q2, f2, l2⟩ := z2.all
                  obtain ⟨s, hs⟩ : ∃ s, s = sameTo xs2 ys2 k 4 := ⟨_, rfl⟩
                  rw [← hs] at Hst Hin2 ⊢
                  clear hs
                  cases s
                  · simp only [Bool.not_false]
                    go_wp2_with fail
                    refine (ref_Inside _ _ _ _ _ _ _ _ _ (by omega) (by omega) (by omega) (by omega) (by omega) (by omega) (by omega) (by omega) (by omega) (by omega) (by omega) (by omega)).mono ?_
                    rw [Hin2.out trivial]
                    rintro e w7 ⟨rfl, hb7⟩
                    go_wp2_with fail
                    go_roundw
                    case rel => exact ⟨i + 1, by omega, by go_num, by rw [show j * fwN + (i + 1) = k + 1 by rw [Hk.out]; rfl, Hst.out]; rfl, (below_drewN hE2 _).trans (hb7.mono hE2.size)⟩
                    case measure => simp [intOf]; omega
                  · simp only [Bool.not_true]
                    go_wp2_with fail
                    go_roundw
                    case rel => exact ⟨i + 1, by omega, by go_num, by rw [show j * fwN + (i + 1) = k + 1 by rw [Hk.out]; rfl, Hst.out]; rfl, below_drewN hE2 _⟩
                    case measure => simp [intOf]; omega
          · have hie : i = fwN := by omega
            subst hie
            go_wp2_with fail
            go_roundw
            case rel => exact ⟨j + 1, by omega, by go_num, by rw [Nat.add_mul, Nat.one_mul], hbr⟩
            case measure => simp [intOf]; omega
      · have hje : j = fhN := by omega
        subst hje
        have hkM : j * fwN = M2 := by rw [Nat.mul_comm]; omega
        have hmm : m = chMany fwN j xs2 ys2 (j * fwN) := by rw [hkM]; exact Hm.out
        subst hmm
        go_wp2_with fail
        go_ret
        exact ⟨ret_bool (by simp), B6.trans (hbl.mono B6.size)⟩
end Go.Proofs.Ytoffnmpnhddaiaa
