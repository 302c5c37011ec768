/- grade.spare. (printed by gen_gnf.py) -/
import Derived.Test.YticekgnmiaidjaaGreatDoorGnF
namespace Go.Proofs.YticekgnmiaidjaaGreatDoor
open Go.RowKit Go.Lib

set_option maxRecDepth 100000 in
set_option maxHeartbeats 64000000 in
theorem grade_spare (C : Array Value) (g : Gd) (W : World) (hG : GdAt W C g) : Calls Tryz.prog 86 #[.agg C] W fun e w' => e = .returned (.bool (spareB g)) ∧ Below W.heap.size W w' := by
  obtain ⟨R, hR⟩ : ∃ R, spareB g = R := ⟨_, rfl⟩
  rw [hR]
  have HR := Lib.hid hR
  have HG := Lib.hid hG
  clear hG hR
  obtain ⟨w0, w1, w2, w3, w4, w5, w6, w7, w8, l0, l1, l2, l3, l4, l5, l6, l7, l8, l9, m0, m1, m2, m3, m4, m5, m6, m7, m8, m9, m10, m11, n0, n1, n2, hfl⟩ := HG.out.flat
  have HFl := Lib.hid hfl
  obtain ⟨kk, hkk⟩ : ∃ kk, g.kind = kk := ⟨_, rfl⟩
  have HKK := Lib.hid hkk
  obtain ⟨pv, hpv⟩ : ∃ x, g.piv = x := ⟨_, rfl⟩
  obtain ⟨am, ham⟩ : ∃ x, g.amt = x := ⟨_, rfl⟩
  have HPA := Lib.hid (And.intro hpv ham)
  clear hfl hkk hpv ham
  go_enter Tryz.func86, Tryz.ntmps86
  go_upto_region 1 with fail
  refine name_world ?_
  intro W1 hW1
  have X1 : Hid (Bx W1 W.heap.size 46 C) := Lib.hid (by rw [hW1]; exact Bx.new W _ C)
  have HW : Hid (Below W.heap.size W W1) := Lib.hid (by rw [hW1]; exact bnew (ob := .cells C 46) (Below.refl _ _))
  obtain ⟨p1, hp1⟩ : ∃ p, W.heap.size = p := ⟨_, rfl⟩
  rw [hp1] at X1 ⊢
  have HP1 := Lib.hid hp1
  clear hW1 hp1
  obtain ⟨hD1, hD2⟩ := part_cells X1.out 20 12 (by rw [HG.out.size]; omega)
  have HD := Lib.hid (And.intro hD1 hD2)
  clear hD1 hD2
  go_wp2_with (refine wpList_load_cells rfl 40 (.tmp 5) rfl p1 20 rfl (C.extract 20 (20 + 12)) HD.out.2 _ Tryz.underlying40 rfl (by rw [HD.out.1]; exact size_c4) ?_)
  obtain ⟨D, hD⟩ : ∃ D, C.extract 20 (20 + 12) = D := ⟨_, rfl⟩
  rw [hD]
  have HDe := Lib.hid hD
  clear hD
  go_loopw [7] (fun i wr => ∃ j : Nat, j ≤ 4 ∧ i = .int .i64 (j : Int) ∧ Hid ((g.cvs.take j).any (cvBad g.kind) = false) ∧ Hid (Below W1.heap.size W1 wr)) (fun i _ => 4 - (RowKit.intOf i).toNat)
  case atStart => exact ⟨0, by omega, rfl, Lib.hid rfl, Lib.hid (Below.refl _ _)⟩
  case round =>
    obtain ⟨j, hj, rfl, HA, HB⟩ := hrel
    by_cases hlj : j < 4
    · obtain ⟨c3, hc3⟩ : ∃ c3, g.cvs[j]? = some c3 := ⟨_, List.getElem?_eq_getElem (by have := HG.out.cvs.1; omega)⟩
      obtain ⟨vx, vy, e3, slx, sly⟩ := HG.out.cv hc3
      rw [HDe.out] at e3
      obtain ⟨ax, cx, rfl⟩ := slx.sl
      obtain ⟨ay, cy, rfl⟩ := sly.sl
      obtain ⟨nx, hnx⟩ : ∃ n, c3.xs.length = n := ⟨_, rfl⟩
      obtain ⟨ny, hny⟩ : ∃ n, c3.ys.length = n := ⟨_, rfl⟩
      obtain ⟨ck, hck⟩ : ∃ n, c3.kind = n := ⟨_, rfl⟩
      rw [hnx, hny, hck] at e3
      obtain ⟨D3, hD3⟩ : ∃ D3, (#[Value.int .i64 ck, .slice ax nx cx, .slice ay ny cy] : Array Value) = D3 := ⟨_, rfl⟩
      have hone : D3.all (·.oneCell') = true := by rw [← hD3]; simp [Value.oneCell']
      have hcs : D3.size = 3 := by rw [← hD3]; rfl
      have hst := fun w => curve_store w hcs hone
      rw [hD3] at e3
      have hhp : hasP c3 = (decide (0 < nx) || decide (0 < ny)) := by unfold hasP; rw [hnx, hny]
      have hjl : j < g.cvs.length := by have := HG.out.cvs.1; omega
      have hgd : g.cvs.getD j ⟨0, [], []⟩ = c3 := by rw [List.getD_eq_getElem?_getD, hc3]; rfl
      have h1 := any_takeG (cvBad g.kind) g.cvs ⟨0, [], []⟩ j hjl
      rw [HA.out, Bool.false_or, hgd] at h1
      have h2 := any_has (cvBad g.kind) g.cvs ⟨0, [], []⟩ j hjl
      rw [hgd] at h2
      have HE3 := Lib.hid (And.intro e3 hD3)
      have HC3 := Lib.hid (And.intro h1 (And.intro h2 (And.intro hck hhp)))
      have hd2 : decide ((j : Int) < 4) = true := decide_eq_true (by omega)
      clear hc3 slx sly hnx hny hck hone hD3 e3 hhp hjl hgd h1 h2
      go_upto_region 3 with fail
      go_upto_region 4 with (refine wpList_index_cv rfl (.tmp 6) (.tmp 7) rfl rfl rfl hlj HE3.out.1 ?_)
      clear hst hcs
      refine name_world ?_
      intro W2 hW2
      have X4 : Hid (Bx W2 wr.heap.size 39 D3) := Lib.hid (by rw [hW2]; exact Bx.new wr _ D3)
      have HB2 : Hid (Below W1.heap.size W1 W2) := Lib.hid (by rw [hW2]; exact bnew (ob := .cells D3 39) HB.out)
      obtain ⟨p4, hp4⟩ : ∃ p, wr.heap.size = p := ⟨_, rfl⟩
      rw [hp4] at X4 ⊢
      clear hW2 hp4
      have hD3 := HE3.out.2
      subst hD3
      have hr := X4.out.all.1
      have r0 := hr 0
      have r1 := hr 1
      have r2 := hr 2
      simp only [List.getElem?_toArray, List.getElem?_cons_zero, List.getElem?_cons_succ] at r0 r1 r2
      clear hr
      have q0 : W2.cell? ⟨p1, 0, none⟩ = some (.int .i64 kk) := by rw [(X1.out.keep HB2.out).all.1, HG.out.kind, HKK.out]
      have HH := Lib.hid HC3.out.2.2.2
      obtain ⟨h, hh⟩ : ∃ h, (decide (0 < nx) || decide (0 < ny)) = h := ⟨_, rfl⟩
      rw [hh] at HH
      have Hh := Lib.hid hh
      clear hh
      by_cases k3 : kk = 3
      · subst k3
        go_wp2_with fail
        refine (grade_hasPoints _ _ _ _ _ _ _ _).mono ?_
        rintro e w5 ⟨rfl, hb5⟩
        rw [Hh.out]
        have HB5 : Hid (Below W1.heap.size W1 w5) := Lib.hid (HB2.out.trans (hb5.mono HB2.out.size))
        have s0 := (X4.out.keep hb5).all.1 0
        have s1 := (X4.out.keep hb5).all.1 1
        have s2 := (X4.out.keep hb5).all.1 2
        simp only [List.getElem?_toArray, List.getElem?_cons_zero, List.getElem?_cons_succ] at s0 s1 s2
        clear hb5 r0 r1 r2 q0
        cases h
        · by_cases c0 : ck = 0
          · have HBd : Hid (cvBad g.kind c3 = false) := Lib.hid (by unfold cvBad; rw [HKK.out, HC3.out.2.2.1, HH.out, c0]; rfl)
            subst c0
            simp only [Bool.not_false]
            go_wp2_with fail
            refine (grade_hasPoints _ _ _ _ _ _ _ _).mono ?_
            rintro e w6 ⟨rfl, hb6⟩
            rw [Hh.out]
            have HB6 : Hid (Below W1.heap.size W1 w6) := Lib.hid (HB5.out.trans (hb6.mono HB5.out.size))
            clear hb6 s0 s1 s2
            go_wp2_with fail
            go_roundw
            case rel => exact ⟨j + 1, by omega, by go_num, Lib.hid (by rw [HC3.out.1, HBd.out]), Lib.hid (HB6.out)⟩
            case measure => simp [RowKit.intOf]; omega
          · have HBd : Hid (cvBad g.kind c3 = true) := Lib.hid (by unfold cvBad; rw [HKK.out, HC3.out.2.2.1, HH.out, decide_eq_false c0]; rfl)
            simp only [Bool.not_false]
            go_wp2_with fail
            go_ret
            exact ⟨ret_bool' (by rw [← HR.out]; unfold spareB; rw [HC3.out.2.1 HBd.out]; simp), HW.out.trans ((HB5.out).mono HW.out.size)⟩
        · have HBd : Hid (cvBad g.kind c3 = false) := Lib.hid (by unfold cvBad; rw [HKK.out, HC3.out.2.2.1, HH.out]; simp)
          simp only [Bool.not_true]
          go_wp2_with fail
          go_roundw
          case rel => exact ⟨j + 1, by omega, by go_num, Lib.hid (by rw [HC3.out.1, HBd.out]), Lib.hid (HB5.out)⟩
          case measure => simp [RowKit.intOf]; omega
      · by_cases c0 : ck = 0
        · subst c0
          go_wp2_with fail
          refine (grade_hasPoints _ _ _ _ _ _ _ _).mono ?_
          rintro e w5 ⟨rfl, hb5⟩
          rw [Hh.out]
          have HB5 : Hid (Below W1.heap.size W1 w5) := Lib.hid (HB2.out.trans (hb5.mono HB2.out.size))
          clear hb5 r0 r1 r2 q0
          cases h
          · have HBd : Hid (cvBad g.kind c3 = false) := Lib.hid (by unfold cvBad; rw [HC3.out.2.2.1, HH.out]; simp)
            go_wp2_with fail
            go_roundw
            case rel => exact ⟨j + 1, by omega, by go_num, Lib.hid (by rw [HC3.out.1, HBd.out]), Lib.hid (HB5.out)⟩
            case measure => simp [RowKit.intOf]; omega
          · have HBd : Hid (cvBad g.kind c3 = true) := Lib.hid (by unfold cvBad; rw [HKK.out, HC3.out.2.2.1, HH.out, decide_eq_false k3]; rfl)
            go_wp2_with fail
            go_ret
            exact ⟨ret_bool' (by rw [← HR.out]; unfold spareB; rw [HC3.out.2.1 HBd.out]; simp), HW.out.trans ((HB5.out).mono HW.out.size)⟩
        · have HBd : Hid (cvBad g.kind c3 = true) := Lib.hid (by unfold cvBad; rw [HKK.out, HC3.out.2.2.1, decide_eq_false k3, decide_eq_false c0]; rfl)
          go_wp2_with fail
          go_ret
          exact ⟨ret_bool' (by rw [← HR.out]; unfold spareB; rw [HC3.out.2.1 HBd.out]; simp), HW.out.trans ((HB2.out).mono HW.out.size)⟩
    · obtain rfl : j = 4 := by omega
      have HA4 : Hid (g.cvs.any (cvBad g.kind) = false) := Lib.hid (by have := HA.out; rw [show g.cvs.take 4 = g.cvs by rw [← HG.out.cvs.1, List.take_length]] at this; exact this)
      have BQ := X1.out.keep HB.out
      have q0 : wr.cell? ⟨p1, 0, none⟩ = some (.int .i64 kk) := by rw [BQ.all.1, HG.out.kind, HKK.out]
      have q1 : wr.cell? ⟨p1, 1, none⟩ = some (.float .f32 w0) := by rw [BQ.all.1, HG.out.whe.2 0 (by omega), HFl.out.whe]; rfl
      have q2 : wr.cell? ⟨p1, 2, none⟩ = some (.float .f32 w1) := by rw [BQ.all.1, HG.out.whe.2 1 (by omega), HFl.out.whe]; rfl
      have q3 : wr.cell? ⟨p1, 3, none⟩ = some (.float .f32 w2) := by rw [BQ.all.1, HG.out.whe.2 2 (by omega), HFl.out.whe]; rfl
      have q4 : wr.cell? ⟨p1, 4, none⟩ = some (.float .f32 w3) := by rw [BQ.all.1, HG.out.whe.2 3 (by omega), HFl.out.whe]; rfl
      have q5 : wr.cell? ⟨p1, 5, none⟩ = some (.float .f32 w4) := by rw [BQ.all.1, HG.out.whe.2 4 (by omega), HFl.out.whe]; rfl
      have q6 : wr.cell? ⟨p1, 6, none⟩ = some (.float .f32 w5) := by rw [BQ.all.1, HG.out.whe.2 5 (by omega), HFl.out.whe]; rfl
      have q7 : wr.cell? ⟨p1, 7, none⟩ = some (.float .f32 w6) := by rw [BQ.all.1, HG.out.whe.2 6 (by omega), HFl.out.whe]; rfl
      have q8 : wr.cell? ⟨p1, 8, none⟩ = some (.float .f32 w7) := by rw [BQ.all.1, HG.out.whe.2 7 (by omega), HFl.out.whe]; rfl
      have q9 : wr.cell? ⟨p1, 9, none⟩ = some (.float .f32 w8) := by rw [BQ.all.1, HG.out.whe.2 8 (by omega), HFl.out.whe]; rfl
      have q10 : wr.cell? ⟨p1, 10, none⟩ = some (.float .f32 l0) := by rw [BQ.all.1, HG.out.lst.2 0 (by omega), HFl.out.lst]; rfl
      have q11 : wr.cell? ⟨p1, 11, none⟩ = some (.float .f32 l1) := by rw [BQ.all.1, HG.out.lst.2 1 (by omega), HFl.out.lst]; rfl
      have q12 : wr.cell? ⟨p1, 12, none⟩ = some (.float .f32 l2) := by rw [BQ.all.1, HG.out.lst.2 2 (by omega), HFl.out.lst]; rfl
      have q13 : wr.cell? ⟨p1, 13, none⟩ = some (.float .f32 l3) := by rw [BQ.all.1, HG.out.lst.2 3 (by omega), HFl.out.lst]; rfl
      have q14 : wr.cell? ⟨p1, 14, none⟩ = some (.float .f32 l4) := by rw [BQ.all.1, HG.out.lst.2 4 (by omega), HFl.out.lst]; rfl
      have q15 : wr.cell? ⟨p1, 15, none⟩ = some (.float .f32 l5) := by rw [BQ.all.1, HG.out.lst.2 5 (by omega), HFl.out.lst]; rfl
      have q16 : wr.cell? ⟨p1, 16, none⟩ = some (.float .f32 l6) := by rw [BQ.all.1, HG.out.lst.2 6 (by omega), HFl.out.lst]; rfl
      have q17 : wr.cell? ⟨p1, 17, none⟩ = some (.float .f32 l7) := by rw [BQ.all.1, HG.out.lst.2 7 (by omega), HFl.out.lst]; rfl
      have q18 : wr.cell? ⟨p1, 18, none⟩ = some (.float .f32 l8) := by rw [BQ.all.1, HG.out.lst.2 8 (by omega), HFl.out.lst]; rfl
      have q19 : wr.cell? ⟨p1, 19, none⟩ = some (.float .f32 l9) := by rw [BQ.all.1, HG.out.lst.2 9 (by omega), HFl.out.lst]; rfl
      have q32 : wr.cell? ⟨p1, 32, none⟩ = some (.float .f32 m0) := by rw [BQ.all.1, HG.out.mix.2 0 (by omega), HFl.out.mix]; rfl
      have q33 : wr.cell? ⟨p1, 33, none⟩ = some (.float .f32 m1) := by rw [BQ.all.1, HG.out.mix.2 1 (by omega), HFl.out.mix]; rfl
      have q34 : wr.cell? ⟨p1, 34, none⟩ = some (.float .f32 m2) := by rw [BQ.all.1, HG.out.mix.2 2 (by omega), HFl.out.mix]; rfl
      have q35 : wr.cell? ⟨p1, 35, none⟩ = some (.float .f32 m3) := by rw [BQ.all.1, HG.out.mix.2 3 (by omega), HFl.out.mix]; rfl
      have q36 : wr.cell? ⟨p1, 36, none⟩ = some (.float .f32 m4) := by rw [BQ.all.1, HG.out.mix.2 4 (by omega), HFl.out.mix]; rfl
      have q37 : wr.cell? ⟨p1, 37, none⟩ = some (.float .f32 m5) := by rw [BQ.all.1, HG.out.mix.2 5 (by omega), HFl.out.mix]; rfl
      have q38 : wr.cell? ⟨p1, 38, none⟩ = some (.float .f32 m6) := by rw [BQ.all.1, HG.out.mix.2 6 (by omega), HFl.out.mix]; rfl
      have q39 : wr.cell? ⟨p1, 39, none⟩ = some (.float .f32 m7) := by rw [BQ.all.1, HG.out.mix.2 7 (by omega), HFl.out.mix]; rfl
      have q40 : wr.cell? ⟨p1, 40, none⟩ = some (.float .f32 m8) := by rw [BQ.all.1, HG.out.mix.2 8 (by omega), HFl.out.mix]; rfl
      have q41 : wr.cell? ⟨p1, 41, none⟩ = some (.float .f32 m9) := by rw [BQ.all.1, HG.out.mix.2 9 (by omega), HFl.out.mix]; rfl
      have q42 : wr.cell? ⟨p1, 42, none⟩ = some (.float .f32 m10) := by rw [BQ.all.1, HG.out.mix.2 10 (by omega), HFl.out.mix]; rfl
      have q43 : wr.cell? ⟨p1, 43, none⟩ = some (.float .f32 m11) := by rw [BQ.all.1, HG.out.mix.2 11 (by omega), HFl.out.mix]; rfl
      have q44 : wr.cell? ⟨p1, 44, none⟩ = some (.float .f32 g.piv) := by rw [BQ.all.1, HG.out.piv]
      have q45 : wr.cell? ⟨p1, 45, none⟩ = some (.float .f32 g.amt) := by rw [BQ.all.1, HG.out.amt]
      have q46 : wr.cell? ⟨p1, 46, none⟩ = some (.int .i64 n0) := by rw [BQ.all.1, HG.out.pts.2 0 (by omega), HFl.out.pts]; rfl
      have q47 : wr.cell? ⟨p1, 47, none⟩ = some (.int .i64 n1) := by rw [BQ.all.1, HG.out.pts.2 1 (by omega), HFl.out.pts]; rfl
      have q48 : wr.cell? ⟨p1, 48, none⟩ = some (.int .i64 n2) := by rw [BQ.all.1, HG.out.pts.2 2 (by omega), HFl.out.pts]; rfl
      rw [HPA.out.1] at q44
      rw [HPA.out.2] at q45
      obtain ⟨zw, hzw⟩ : ∃ z, [w0, w1, w2, w3, w4, w5, w6, w7, w8].all zer0 = z := ⟨_, rfl⟩
      obtain ⟨zl, hzl⟩ : ∃ z, [l0, l1, l2, l3, l4, l5, l6, l7, l8, l9].all zer0 = z := ⟨_, rfl⟩
      obtain ⟨zm, hzm⟩ : ∃ z, [m0, m1, m2, m3, m4, m5, m6, m7, m8, m9, m10, m11].all zer0 = z := ⟨_, rfl⟩
      obtain ⟨zn, hzn⟩ : ∃ z, ([n0, n1, n2].all fun n => decide (n = 0)) = z := ⟨_, rfl⟩
      have ewh := fun w => eq_wh w0 w1 w2 w3 w4 w5 w6 w7 w8 w
      have els := fun w => eq_ls l0 l1 l2 l3 l4 l5 l6 l7 l8 l9 w
      have emx := fun w => eq_mx m0 m1 m2 m3 m4 m5 m6 m7 m8 m9 m10 m11 w
      have ept := fun w => eq_i3 9998 n0 n1 n2 w
      simp only [hzw] at ewh
      simp only [hzl] at els
      simp only [hzm] at emx
      simp only [hzn] at ept
      have HRR : Hid (((decide (kk = 1) || zw) && ((decide (kk = 2) || zl) && ((decide (kk = 4) || zm) && ((decide (kk = 5) || (zer0 pv && zer0 am)) && (decide (kk = 6) || zn))))) = R) := Lib.hid (by
        rw [← HR.out]; unfold spareB
        rw [HA4.out, HKK.out, HFl.out.whe, HFl.out.lst, HFl.out.mix, HFl.out.pts, HPA.out.1, HPA.out.2, hzw, hzl, hzm, hzn]; rfl)
      have HBF := Lib.hid (HW.out.trans (HB.out.mono HW.out.size))
      clear hzw hzl hzm hzn BQ hlj hj
      by_cases k1 : kk = 1
      · subst k1
        cases zl
        · go_wp2_with fail
          go_ret
          exact ⟨ret_bool' (by rw [← HRR.out]; simp [*]), HBF.out⟩
        · cases zm
          · go_wp2_with fail
            go_ret
            exact ⟨ret_bool' (by rw [← HRR.out]; simp [*]), HBF.out⟩
          · cases zpv : (FloatKind.f32.format.order pv 0 == some .eq)
            · have zzpv : zer0 pv = false := zpv
              go_wp2_with fail
              go_ret
              exact ⟨ret_bool' (by rw [← HRR.out]; simp [*]), HBF.out⟩
            · have zzpv : zer0 pv = true := zpv
              cases zam : (FloatKind.f32.format.order am 0 == some .eq)
              · have zzam : zer0 am = false := zam
                go_wp2_with fail
                go_ret
                exact ⟨ret_bool' (by rw [← HRR.out]; simp [*]), HBF.out⟩
              · have zzam : zer0 am = true := zam
                cases zn
                · go_wp2_with fail
                  go_ret
                  exact ⟨ret_bool' (by rw [← HRR.out]; simp [*]), HBF.out⟩
                · go_wp2_with fail
                  go_ret
                  exact ⟨ret_bool' (by rw [← HRR.out]; simp [*]), HBF.out⟩
      · cases zw
        · go_wp2_with fail
          go_ret
          exact ⟨ret_bool' (by rw [← HRR.out]; simp [*]), HBF.out⟩
        · by_cases k2 : kk = 2
          · subst k2
            cases zm
            · go_wp2_with fail
              go_ret
              exact ⟨ret_bool' (by rw [← HRR.out]; simp [*]), HBF.out⟩
            · cases zpv : (FloatKind.f32.format.order pv 0 == some .eq)
              · have zzpv : zer0 pv = false := zpv
                go_wp2_with fail
                go_ret
                exact ⟨ret_bool' (by rw [← HRR.out]; simp [*]), HBF.out⟩
              · have zzpv : zer0 pv = true := zpv
                cases zam : (FloatKind.f32.format.order am 0 == some .eq)
                · have zzam : zer0 am = false := zam
                  go_wp2_with fail
                  go_ret
                  exact ⟨ret_bool' (by rw [← HRR.out]; simp [*]), HBF.out⟩
                · have zzam : zer0 am = true := zam
                  cases zn
                  · go_wp2_with fail
                    go_ret
                    exact ⟨ret_bool' (by rw [← HRR.out]; simp [*]), HBF.out⟩
                  · go_wp2_with fail
                    go_ret
                    exact ⟨ret_bool' (by rw [← HRR.out]; simp [*]), HBF.out⟩
          · cases zl
            · go_wp2_with fail
              go_ret
              exact ⟨ret_bool' (by rw [← HRR.out]; simp [*]), HBF.out⟩
            · by_cases k4 : kk = 4
              · subst k4
                cases zpv : (FloatKind.f32.format.order pv 0 == some .eq)
                · have zzpv : zer0 pv = false := zpv
                  go_wp2_with fail
                  go_ret
                  exact ⟨ret_bool' (by rw [← HRR.out]; simp [*]), HBF.out⟩
                · have zzpv : zer0 pv = true := zpv
                  cases zam : (FloatKind.f32.format.order am 0 == some .eq)
                  · have zzam : zer0 am = false := zam
                    go_wp2_with fail
                    go_ret
                    exact ⟨ret_bool' (by rw [← HRR.out]; simp [*]), HBF.out⟩
                  · have zzam : zer0 am = true := zam
                    cases zn
                    · go_wp2_with fail
                      go_ret
                      exact ⟨ret_bool' (by rw [← HRR.out]; simp [*]), HBF.out⟩
                    · go_wp2_with fail
                      go_ret
                      exact ⟨ret_bool' (by rw [← HRR.out]; simp [*]), HBF.out⟩
              · cases zm
                · go_wp2_with fail
                  go_ret
                  exact ⟨ret_bool' (by rw [← HRR.out]; simp [*]), HBF.out⟩
                · by_cases k5 : kk = 5
                  · subst k5
                    cases zn
                    · go_wp2_with fail
                      go_ret
                      exact ⟨ret_bool' (by rw [← HRR.out]; simp [*]), HBF.out⟩
                    · go_wp2_with fail
                      go_ret
                      exact ⟨ret_bool' (by rw [← HRR.out]; simp [*]), HBF.out⟩
                  · cases zpv : (FloatKind.f32.format.order pv 0 == some .eq)
                    · have zzpv : zer0 pv = false := zpv
                      go_wp2_with fail
                      go_ret
                      exact ⟨ret_bool' (by rw [← HRR.out]; simp [*]), HBF.out⟩
                    · have zzpv : zer0 pv = true := zpv
                      cases zam : (FloatKind.f32.format.order am 0 == some .eq)
                      · have zzam : zer0 am = false := zam
                        go_wp2_with fail
                        go_ret
                        exact ⟨ret_bool' (by rw [← HRR.out]; simp [*]), HBF.out⟩
                      · have zzam : zer0 am = true := zam
                        by_cases k6 : kk = 6
                        · subst k6
                          go_wp2_with fail
                          go_ret
                          exact ⟨ret_bool' (by rw [← HRR.out]; simp [*]), HBF.out⟩
                        · cases zn
                          · go_wp2_with fail
                            go_ret
                            exact ⟨ret_bool' (by rw [← HRR.out]; simp [*]), HBF.out⟩
                          · go_wp2_with fail
                            go_ret
                            exact ⟨ret_bool' (by rw [← HRR.out]; simp [*]), HBF.out⟩
end Go.Proofs.YticekgnmiaidjaaGreatDoor
