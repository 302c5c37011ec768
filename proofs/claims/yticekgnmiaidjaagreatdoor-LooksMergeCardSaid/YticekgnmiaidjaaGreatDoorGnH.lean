/- grade.CheckGrade: gradeErr. (printed by gen_gnh.py) -/
import Derived.Test.YticekgnmiaidjaaGreatDoorGnG
namespace Go.Proofs.YticekgnmiaidjaaGreatDoor
open Go.RowKit Go.Lib

theorem cvsErr_next {l : List Cv} {j : Nat} {c : Cv} (h : l[j]? = some c) : cvsErr (l.take (j + 1)) = if hasP c = true ∧ cvsErr (l.take j) = 0 then curveErr c else cvsErr (l.take j) := by
  unfold cvsErr
  rw [List.take_add_one, h]
  simp [List.foldl_append]
theorem size_wh : (Tryz.prog.info? 34).map (·.size) = some 9 := by kernel_rfl
theorem size_ls : (Tryz.prog.info? 36).map (·.size) = some 10 := by kernel_rfl
theorem part_get {w : World} {C : Array Value} {g : Gd} (h : GdAt w C g) (f n : Nat) (hn : f + n ≤ 49) (k : Nat) (hk : k < n) : (C.extract f (f + n))[k]? = C[f + k]? := by
  rw [Array.getElem?_extract, if_pos (by rw [h.size]; omega)]
/-- A guarded load of a whole value, where the guard holds. -/
theorem wpList_load_cells_g {ops : Array Oper} {rest : List Oper} {o : Oper} {a : Act} {w : World} {Q : Exit → Act → World → Prop} (hw : Region.wanted o (yielded ops a.tmps) = true) (ty : TypeId) (x : Operand) (ho : o.op = .load ty x)
    (b f : Nat) (hx : a.eval x = .pointer (some ⟨b, f, none⟩)) (D : Array Value) (hD : ∀ (j : Nat) (v : Value), D[j]? = some v → w.cell? ⟨b, f + j, none⟩ = some v) (d : TypeDesc)
    (hu : Tryz.prog.underlying ty = some d) (hd : (match d with | .struct _ | .array _ _ => true | _ => false) = true) (hi : (Tryz.prog.info? ty).map (·.size) = some D.size)
    (h : wpList Tryz.prog ops Q rest (a.put o.dst (.agg D)) w) : wpList Tryz.prog ops Q (o :: rest) a w :=
  wpList_step fun K hK => by
    simp only [hw, if_true]
    exact wp_load_cells ty x ho b f hx D hD d hu hd hi (hK _ _ h)
theorem ErrIs {a b : Int} (h : a = b) : Ending.returned (Value.int .i64 a) = .returned (.int .i64 b) := by rw [h]
set_option maxRecDepth 100000 in
set_option maxHeartbeats 32000000 in
theorem grade_CheckGrade (C : Array Value) (g : Gd) (W : World) (hG : GdAt W C g) : Calls Tryz.prog 38 #[.agg C] W fun e w' => e = .returned (.int .i64 (gradeErr g)) ∧ Below W.heap.size W w' := by
  have HG := Lib.hid hG
  clear hG
  obtain ⟨kk, hkk⟩ : ∃ kk, g.kind = kk := ⟨_, rfl⟩
  have HKK := Lib.hid hkk
  clear hkk
  go_enter Tryz.func38, Tryz.ntmps38
  go_upto_region 1 with fail
  refine name_world ?_
  intro W1 hW1
  have X1 : Hid (Bx W1 W.heap.size 46 C) := Lib.hid (by rw [hW1]; exact Bx.new W _ C)
  have HW : Hid (Below W.heap.size W W1) := Lib.hid (by rw [hW1]; exact bnew (ob := .cells C 46) (Below.refl _ _))
  obtain ⟨p1, hp1⟩ : ∃ p, W.heap.size = p := ⟨_, rfl⟩
  rw [hp1] at X1 ⊢
  have HP1 := Lib.hid hp1
  have q0 : W1.cell? ⟨p1, 0, none⟩ = some (.int .i64 kk) := by rw [X1.out.all.1, HG.out.kind, HKK.out]
  clear hW1 hp1
  by_cases k1 : kk = 1
  · subst k1
    obtain ⟨hD1, hD2⟩ := part_cells X1.out 1 9 (by rw [HG.out.size]; omega)
    obtain ⟨D, hD⟩ : ∃ D, C.extract 1 (1 + 9) = D := ⟨_, rfl⟩
    have hDg : ∀ k, k < 9 → D[k]? = some (.float .f32 (g.whe.getD k 0)) := fun k hk => by rw [← hD, part_get HG.out 1 9 (by omega) k hk]; exact HG.out.whe.2 k hk
    rw [hD] at hD1 hD2
    have HD := Lib.hid (And.intro hD1 (And.intro hD2 hDg))
    clear hD1 hD2 hDg hD
    go_wp2_with (refine wpList_load_cells rfl 34 (.tmp 10) rfl p1 1 rfl D HD.out.2.1 _ Tryz.underlying34 rfl (by rw [HD.out.1]; exact size_wh) ?_)
    refine (grade_CheckWheels D g.whe HG.out.whe.1 HD.out.1 HD.out.2.2 W1).mono ?_
    rintro e w7 ⟨rfl, hb7⟩
    clear q0
    have HBW : Hid (Below W1.heap.size W1 w7) := Lib.hid (hb7)
    have BQ := X1.out.keep HBW.out
    have HSP := Lib.hid (grade_spare C g w7 (HG.out.keep (HW.out.trans (HBW.out.mono HW.out.size))))
    have HBF : Hid (Below W.heap.size W w7) := Lib.hid (HW.out.trans (HBW.out.mono HW.out.size))
    have HLD : Hid (∀ (j : Nat) (v : Value), C[j]? = some v → (w7 : World).cell? ⟨p1, 0 + j, none⟩ = some v) := Lib.hid (fun j v hj => by rw [BQ.all.1, Nat.zero_add]; exact hj)
    obtain ⟨E, hE⟩ : ∃ E, whErr g.whe = E := ⟨_, rfl⟩
    have HKE : Hid (kindErr g = E) := Lib.hid (by rw [← hE]; unfold kindErr; rw [if_pos (by rw [HKK.out])])
    try rw [hE]
    clear BQ hE
    by_cases e0 : E = 0
    · have HER : Hid (gradeErr g = if spareB g then 0 else 12) := Lib.hid (by unfold gradeErr; rw [HKE.out, e0, if_neg (by decide)])
      subst e0
      go_wp2_with (refine wpList_load_cells_g rfl 46 (.tmp 1) rfl p1 0 rfl C HLD.out _ Tryz.underlying46 rfl (by rw [HG.out.size]; exact grade_size) ?_)
      refine HSP.out.mono ?_
      rintro e w9 ⟨rfl, hb9⟩
      have HB9 : Hid (Below W.heap.size W w9) := Lib.hid (bcall HBF.out hb9)
      obtain ⟨sp, hsp⟩ : ∃ s, spareB g = s := ⟨_, rfl⟩
      rw [hsp] at HER ⊢
      clear hb9 hsp
      cases sp
      · simp only [Bool.not_false]
        go_wp2_with fail
        go_ret
        exact ⟨ErrIs (by rw [HER.out]; rfl), HB9.out⟩
      · simp only [Bool.not_true]
        go_wp2_with fail
        go_ret
        exact ⟨ErrIs (by rw [HER.out]; rfl), HB9.out⟩
    · have HER : Hid (gradeErr g = E) := Lib.hid (by unfold gradeErr; rw [HKE.out, if_pos e0])
      go_wp2_with fail
      go_ret
      exact ⟨ErrIs HER.out.symm, HBF.out⟩
  · by_cases k2 : kk = 2
    · subst k2
      obtain ⟨hD1, hD2⟩ := part_cells X1.out 10 10 (by rw [HG.out.size]; omega)
      obtain ⟨D, hD⟩ : ∃ D, C.extract 10 (10 + 10) = D := ⟨_, rfl⟩
      have hDg : ∀ k, k < 10 → D[k]? = some (.float .f32 (g.lst.getD k 0)) := fun k hk => by rw [← hD, part_get HG.out 10 10 (by omega) k hk]; exact HG.out.lst.2 k hk
      rw [hD] at hD1 hD2
      have HD := Lib.hid (And.intro hD1 (And.intro hD2 hDg))
      clear hD1 hD2 hDg hD
      go_wp2_with (refine wpList_load_cells rfl 36 (.tmp 15) rfl p1 10 rfl D HD.out.2.1 _ Tryz.underlying36 rfl (by rw [HD.out.1]; exact size_ls) ?_)
      refine (grade_CheckList D g.lst HG.out.lst.1 HD.out.1 HD.out.2.2 W1).mono ?_
      rintro e w7 ⟨rfl, hb7⟩
      clear q0
      have HBW : Hid (Below W1.heap.size W1 w7) := Lib.hid (hb7)
      have BQ := X1.out.keep HBW.out
      have HSP := Lib.hid (grade_spare C g w7 (HG.out.keep (HW.out.trans (HBW.out.mono HW.out.size))))
      have HBF : Hid (Below W.heap.size W w7) := Lib.hid (HW.out.trans (HBW.out.mono HW.out.size))
      have HLD : Hid (∀ (j : Nat) (v : Value), C[j]? = some v → (w7 : World).cell? ⟨p1, 0 + j, none⟩ = some v) := Lib.hid (fun j v hj => by rw [BQ.all.1, Nat.zero_add]; exact hj)
      obtain ⟨E, hE⟩ : ∃ E, lsErr g.lst = E := ⟨_, rfl⟩
      have HKE : Hid (kindErr g = E) := Lib.hid (by rw [← hE]; unfold kindErr; rw [if_neg (by rw [HKK.out]; decide), if_pos (by rw [HKK.out])])
      try rw [hE]
      clear BQ hE
      by_cases e0 : E = 0
      · have HER : Hid (gradeErr g = if spareB g then 0 else 12) := Lib.hid (by unfold gradeErr; rw [HKE.out, e0, if_neg (by decide)])
        subst e0
        go_wp2_with (refine wpList_load_cells_g rfl 46 (.tmp 1) rfl p1 0 rfl C HLD.out _ Tryz.underlying46 rfl (by rw [HG.out.size]; exact grade_size) ?_)
        refine HSP.out.mono ?_
        rintro e w9 ⟨rfl, hb9⟩
        have HB9 : Hid (Below W.heap.size W w9) := Lib.hid (bcall HBF.out hb9)
        obtain ⟨sp, hsp⟩ : ∃ s, spareB g = s := ⟨_, rfl⟩
        rw [hsp] at HER ⊢
        clear hb9 hsp
        cases sp
        · simp only [Bool.not_false]
          go_wp2_with fail
          go_ret
          exact ⟨ErrIs (by rw [HER.out]; rfl), HB9.out⟩
        · simp only [Bool.not_true]
          go_wp2_with fail
          go_ret
          exact ⟨ErrIs (by rw [HER.out]; rfl), HB9.out⟩
      · have HER : Hid (gradeErr g = E) := Lib.hid (by unfold gradeErr; rw [HKE.out, if_pos e0])
        go_wp2_with fail
        go_ret
        exact ⟨ErrIs HER.out.symm, HBF.out⟩
    · by_cases k3 : kk = 3
      · subst k3
        obtain ⟨hD1, hD2⟩ := part_cells X1.out 20 12 (by rw [HG.out.size]; omega)
        have HD := Lib.hid (And.intro hD1 hD2)
        clear hD1 hD2
        go_wp2_with (refine wpList_load_cells rfl 40 (.tmp 20) rfl p1 20 rfl (C.extract 20 (20 + 12)) HD.out.2 _ Tryz.underlying40 rfl (by rw [HD.out.1]; exact size_c4) ?_)
        obtain ⟨D, hD⟩ : ∃ D, C.extract 20 (20 + 12) = D := ⟨_, rfl⟩
        rw [hD]
        have HDe := Lib.hid hD
        clear hD q0
        go_loopw [3, 22] (fun s3 i wr => ∃ (j : Nat) (E : Int), j ≤ 4 ∧ i = .int .i64 (j : Int) ∧ s3 = .int .i64 E ∧ Hid (cvsErr (g.cvs.take j) = E) ∧ Hid (Below W1.heap.size W1 wr)) (fun _ i _ => 4 - (RowKit.intOf i).toNat)
        case atStart => exact ⟨0, 0, by omega, rfl, rfl, Lib.hid rfl, Lib.hid (Below.refl _ _)⟩
        case round =>
          obtain ⟨j, E, hj, rfl, rfl, HA, HB⟩ := hrel
          by_cases hlj : j < 4
          · obtain ⟨c3, hc3⟩ : ∃ c3, g.cvs[j]? = some c3 := ⟨_, List.getElem?_eq_getElem (by have := HG.out.cvs.1; omega)⟩
            obtain ⟨vx, vy, e3, slx, sly⟩ := HG.out.cv hc3
            rw [HDe.out] at e3
            have hnx := cvsErr_next hc3
            rw [HA.out] at hnx
            have HSL := Lib.hid (And.intro slx sly)
            obtain ⟨ax, cx, rfl⟩ := slx.sl
            obtain ⟨ay, cy, rfl⟩ := sly.sl
            obtain ⟨nx, hx⟩ : ∃ n, c3.xs.length = n := ⟨_, rfl⟩
            obtain ⟨ny, hy⟩ : ∃ n, c3.ys.length = n := ⟨_, rfl⟩
            have hhp : hasP c3 = (decide (0 < nx) || decide (0 < ny)) := by unfold hasP; rw [hx, hy]
            obtain ⟨ck, hck⟩ : ∃ n, c3.kind = n := ⟨_, rfl⟩
            rw [hx, hy] at HSL
            rw [hx, hy, hck] at e3
            obtain ⟨D3, hD3⟩ : ∃ D3, (#[Value.int .i64 ck, .slice ax nx cx, .slice ay ny cy] : Array Value) = D3 := ⟨_, rfl⟩
            have hone : D3.all (·.oneCell') = true := by rw [← hD3]; simp [Value.oneCell']
            have hcs : D3.size = 3 := by rw [← hD3]; rfl
            have hst := fun w => curve_store w hcs hone
            rw [hD3] at e3
            have HE3 := Lib.hid (And.intro e3 hD3)
            have HC3 := Lib.hid (And.intro hnx (And.intro hck hhp))
            have hd2 : decide ((j : Int) < 4) = true := decide_eq_true (by omega)
            clear hc3 slx sly hx hy hck hone hD3 e3 hhp hnx
            go_upto_region 11 with fail
            go_upto_region 12 with (refine wpList_index_cv rfl (.tmp 21) (.tmp 22) rfl rfl rfl hlj HE3.out.1 ?_)
            clear hst hcs
            refine name_world ?_
            intro W2 hW2
            have X4 : Hid (Bx W2 wr.heap.size 39 D3) := Lib.hid (by rw [hW2]; exact Bx.new wr _ D3)
            have HB2 : Hid (Below W1.heap.size W1 W2) := Lib.hid (by rw [hW2]; exact bnew (ob := .cells D3 39) HB.out)
            obtain ⟨p4, hp4⟩ : ∃ p, wr.heap.size = p := ⟨_, rfl⟩
            rw [hp4] at X4 ⊢
            clear hW2 hp4
            have hD3 := HE3.out.2
            subst hD3
            have hr := X4.out.all.1
            have r0 := hr 0
            have r1 := hr 1
            have r2 := hr 2
            simp only [List.getElem?_toArray, List.getElem?_cons_zero, List.getElem?_cons_succ] at r0 r1 r2
            clear hr
            go_wp2_with fail
            refine (grade_hasPoints _ _ _ _ _ _ _ _).mono ?_
            rintro e w5 ⟨rfl, hb5⟩
            have HB5 : Hid (Below W1.heap.size W1 w5) := Lib.hid (HB2.out.trans (hb5.mono HB2.out.size))
            have s0 := (X4.out.keep hb5).all.1 0
            have s1 := (X4.out.keep hb5).all.1 1
            have s2 := (X4.out.keep hb5).all.1 2
            simp only [List.getElem?_toArray, List.getElem?_cons_zero, List.getElem?_cons_succ] at s0 s1 s2
            clear hb5 r0 r1 r2
            obtain ⟨h, hh⟩ : ∃ h, (decide (0 < nx) || decide (0 < ny)) = h := ⟨_, rfl⟩
            rw [hh]
            have Hh : Hid (hasP c3 = h) := Lib.hid (by rw [HC3.out.2.2]; exact hh)
            clear hh
            cases h
            · have HN : Hid (cvsErr (g.cvs.take (j + 1)) = E) := Lib.hid (by rw [HC3.out.1, Hh.out, if_neg (by rintro ⟨h, _⟩; cases h)])
              go_wp2_with fail
              go_roundw
              case rel => exact ⟨j + 1, E, by omega, by go_num, rfl, Lib.hid HN.out, Lib.hid HB5.out⟩
              case measure => simp [RowKit.intOf]; omega
            · by_cases e0 : E = 0
              · have HN : Hid (cvsErr (g.cvs.take (j + 1)) = curveErr c3) := Lib.hid (by rw [HC3.out.1, Hh.out, if_pos ⟨rfl, e0⟩])
                subst e0
                go_wp2_with fail
                have hcc := HC3.out.2.1
                subst hcc
                refine (grade_CheckCurve c3 _ _ w5 (HSL.out.1.keep (HW.out.trans (HB5.out.mono HW.out.size))) (HSL.out.2.keep (HW.out.trans (HB5.out.mono HW.out.size)))).mono ?_
                rintro e w6 ⟨rfl, hb6⟩
                have HB6 : Hid (Below W1.heap.size W1 w6) := Lib.hid (HB5.out.trans (hb6.mono HB5.out.size))
                clear hb6 s0 s1 s2
                go_wp2_with fail
                go_roundw
                case rel => exact ⟨j + 1, _, by omega, by go_num, rfl, Lib.hid HN.out, Lib.hid HB6.out⟩
                case measure => simp [RowKit.intOf]; omega
              · have HN : Hid (cvsErr (g.cvs.take (j + 1)) = E) := Lib.hid (by rw [HC3.out.1, if_neg (fun h => e0 h.2)])
                go_wp2_with fail
                go_roundw
                case rel => exact ⟨j + 1, E, by omega, by go_num, rfl, Lib.hid HN.out, Lib.hid HB5.out⟩
                case measure => simp [RowKit.intOf]; omega
          · obtain rfl : j = 4 := by omega
            have hcv : cvsErr g.cvs = E := by have := HA.out; rw [show g.cvs.take 4 = g.cvs by rw [← HG.out.cvs.1, List.take_length]] at this; exact this
            have HCV := Lib.hid hcv
            clear hcv
            have HBW : Hid (Below W1.heap.size W1 wr) := Lib.hid (HB.out)
            have BQ := X1.out.keep HBW.out
            have HSP := Lib.hid (grade_spare C g wr (HG.out.keep (HW.out.trans (HBW.out.mono HW.out.size))))
            have HBF : Hid (Below W.heap.size W wr) := Lib.hid (HW.out.trans (HBW.out.mono HW.out.size))
            have HLD : Hid (∀ (j : Nat) (v : Value), C[j]? = some v → (wr : World).cell? ⟨p1, 0 + j, none⟩ = some v) := Lib.hid (fun j v hj => by rw [BQ.all.1, Nat.zero_add]; exact hj)
            obtain ⟨E', hE⟩ : ∃ E', E = E' := ⟨_, rfl⟩
            subst hE
            have HKE : Hid (kindErr g = E) := Lib.hid (by unfold kindErr; rw [if_neg (by rw [HKK.out]; decide), if_neg (by rw [HKK.out]; decide), if_pos (by rw [HKK.out])]; exact HCV.out)
            clear BQ
            by_cases e0 : E = 0
            · have HER : Hid (gradeErr g = if spareB g then 0 else 12) := Lib.hid (by unfold gradeErr; rw [HKE.out, e0, if_neg (by decide)])
              subst e0
              go_wp2_with (refine wpList_load_cells_g rfl 46 (.tmp 1) rfl p1 0 rfl C HLD.out _ Tryz.underlying46 rfl (by rw [HG.out.size]; exact grade_size) ?_)
              refine HSP.out.mono ?_
              rintro e w9 ⟨rfl, hb9⟩
              have HB9 : Hid (Below W.heap.size W w9) := Lib.hid (bcall HBF.out hb9)
              obtain ⟨sp, hsp⟩ : ∃ s, spareB g = s := ⟨_, rfl⟩
              rw [hsp] at HER ⊢
              clear hb9 hsp
              cases sp
              · simp only [Bool.not_false]
                go_wp2_with fail
                go_ret
                exact ⟨ErrIs (by rw [HER.out]; rfl), HB9.out⟩
              · simp only [Bool.not_true]
                go_wp2_with fail
                go_ret
                exact ⟨ErrIs (by rw [HER.out]; rfl), HB9.out⟩
            · have HER : Hid (gradeErr g = E) := Lib.hid (by unfold gradeErr; rw [HKE.out, if_pos e0])
              go_wp2_with fail
              go_ret
              exact ⟨ErrIs HER.out.symm, HBF.out⟩
      · by_cases k4 : kk = 4
        · subst k4
          obtain ⟨hD1, hD2⟩ := part_cells X1.out 32 12 (by rw [HG.out.size]; omega)
          obtain ⟨D, hD⟩ : ∃ D, C.extract 32 (32 + 12) = D := ⟨_, rfl⟩
          have hDg : ∀ k, k < 12 → D[k]? = some (.float .f32 (g.mix.getD k 0)) := fun k hk => by rw [← hD, part_get HG.out 32 12 (by omega) k hk]; exact HG.out.mix.2 k hk
          rw [hD] at hD1 hD2
          have HD := Lib.hid (And.intro hD1 (And.intro hD2 hDg))
          clear hD1 hD2 hDg hD
          go_wp2_with (refine wpList_load_cells rfl 43 (.tmp 36) rfl p1 32 rfl D HD.out.2.1 _ Tryz.underlying43 rfl (by rw [HD.out.1]; exact size_mx) ?_)
          refine (grade_CheckMixer D g.mix HG.out.mix.1 HD.out.2.2 W1).mono ?_
          rintro e w7 ⟨rfl, hb7⟩
          clear q0
          have HBW : Hid (Below W1.heap.size W1 w7) := Lib.hid (hb7)
          have BQ := X1.out.keep HBW.out
          have HSP := Lib.hid (grade_spare C g w7 (HG.out.keep (HW.out.trans (HBW.out.mono HW.out.size))))
          have HBF : Hid (Below W.heap.size W w7) := Lib.hid (HW.out.trans (HBW.out.mono HW.out.size))
          have HLD : Hid (∀ (j : Nat) (v : Value), C[j]? = some v → (w7 : World).cell? ⟨p1, 0 + j, none⟩ = some v) := Lib.hid (fun j v hj => by rw [BQ.all.1, Nat.zero_add]; exact hj)
          obtain ⟨E, hE⟩ : ∃ E, (if g.mix.all isNum then (0 : Int) else 2) = E := ⟨_, rfl⟩
          have HKE : Hid (kindErr g = E) := Lib.hid (by rw [← hE]; unfold kindErr; rw [if_neg (by rw [HKK.out]; decide), if_neg (by rw [HKK.out]; decide), if_neg (by rw [HKK.out]; decide), if_pos (by rw [HKK.out])])
          try rw [hE]
          clear BQ hE
          by_cases e0 : E = 0
          · have HER : Hid (gradeErr g = if spareB g then 0 else 12) := Lib.hid (by unfold gradeErr; rw [HKE.out, e0, if_neg (by decide)])
            subst e0
            go_wp2_with (refine wpList_load_cells_g rfl 46 (.tmp 1) rfl p1 0 rfl C HLD.out _ Tryz.underlying46 rfl (by rw [HG.out.size]; exact grade_size) ?_)
            refine HSP.out.mono ?_
            rintro e w9 ⟨rfl, hb9⟩
            have HB9 : Hid (Below W.heap.size W w9) := Lib.hid (bcall HBF.out hb9)
            obtain ⟨sp, hsp⟩ : ∃ s, spareB g = s := ⟨_, rfl⟩
            rw [hsp] at HER ⊢
            clear hb9 hsp
            cases sp
            · simp only [Bool.not_false]
              go_wp2_with fail
              go_ret
              exact ⟨ErrIs (by rw [HER.out]; rfl), HB9.out⟩
            · simp only [Bool.not_true]
              go_wp2_with fail
              go_ret
              exact ⟨ErrIs (by rw [HER.out]; rfl), HB9.out⟩
          · have HER : Hid (gradeErr g = E) := Lib.hid (by unfold gradeErr; rw [HKE.out, if_pos e0])
            go_wp2_with fail
            go_ret
            exact ⟨ErrIs HER.out.symm, HBF.out⟩
        · by_cases k5 : kk = 5
          · subst k5
            have q44 : W1.cell? ⟨p1, 44, none⟩ = some (.float .f32 g.piv) := by rw [X1.out.all.1, HG.out.piv]
            have q45 : W1.cell? ⟨p1, 45, none⟩ = some (.float .f32 g.amt) := by rw [X1.out.all.1, HG.out.amt]
            go_wp2_with fail
            refine (num_AllAt [g.piv, g.amt] _ 0 2 2 _ rfl (by omega) ⟨(Bx.new W1 23 _).lt, fun k hk => by rw [(Bx.new W1 23 _).all.1, Nat.zero_add]; exact (match k, hk with | 0, _ => rfl | 1, _ => rfl)⟩).mono ?_
            rintro e w7 ⟨rfl, hb7⟩
            have hb7' : Below W1.heap.size W1 w7 := bcall (bnew (Below.refl _ _)) hb7
            clear q0 q44 q45 hb7
            obtain ⟨b, hb⟩ : ∃ b, [g.piv, g.amt].all isNum = b := ⟨_, rfl⟩
            have hb2 : (isNum g.piv && isNum g.amt) = b := by rw [← hb]; simp only [List.all_cons, List.all_nil, Bool.and_true]
            rw [hb]
            have HBB := Lib.hid hb2
            clear hb hb2
            cases b
            · simp only [Bool.not_false]
              have hb7 := hb7'
              clear hb7'
              have HBW : Hid (Below W1.heap.size W1 w7) := Lib.hid (hb7)
              have BQ := X1.out.keep HBW.out
              have HSP := Lib.hid (grade_spare C g w7 (HG.out.keep (HW.out.trans (HBW.out.mono HW.out.size))))
              have HBF : Hid (Below W.heap.size W w7) := Lib.hid (HW.out.trans (HBW.out.mono HW.out.size))
              have HLD : Hid (∀ (j : Nat) (v : Value), C[j]? = some v → (w7 : World).cell? ⟨p1, 0 + j, none⟩ = some v) := Lib.hid (fun j v hj => by rw [BQ.all.1, Nat.zero_add]; exact hj)
              have HKE : Hid (kindErr g = 2) := Lib.hid (by unfold kindErr; rw [if_neg (by rw [HKK.out]; decide), if_neg (by rw [HKK.out]; decide), if_neg (by rw [HKK.out]; decide), if_neg (by rw [HKK.out]; decide), if_pos (by rw [HKK.out])]; rw [HBB.out]; rfl)
              clear BQ
              have HER : Hid (gradeErr g = 2) := Lib.hid (by unfold gradeErr; rw [HKE.out, if_pos (by decide)])
              go_wp2_with fail
              go_ret
              exact ⟨ErrIs HER.out.symm, HBF.out⟩
            · simp only [Bool.not_true]
              have hb7 := hb7'
              clear hb7'
              have HBW : Hid (Below W1.heap.size W1 w7) := Lib.hid (hb7)
              have BQ := X1.out.keep HBW.out
              have HSP := Lib.hid (grade_spare C g w7 (HG.out.keep (HW.out.trans (HBW.out.mono HW.out.size))))
              have HBF : Hid (Below W.heap.size W w7) := Lib.hid (HW.out.trans (HBW.out.mono HW.out.size))
              have HLD : Hid (∀ (j : Nat) (v : Value), C[j]? = some v → (w7 : World).cell? ⟨p1, 0 + j, none⟩ = some v) := Lib.hid (fun j v hj => by rw [BQ.all.1, Nat.zero_add]; exact hj)
              have HKE : Hid (kindErr g = 0) := Lib.hid (by unfold kindErr; rw [if_neg (by rw [HKK.out]; decide), if_neg (by rw [HKK.out]; decide), if_neg (by rw [HKK.out]; decide), if_neg (by rw [HKK.out]; decide), if_pos (by rw [HKK.out])]; rw [HBB.out]; rfl)
              clear BQ
              have HER : Hid (gradeErr g = if spareB g then 0 else 12) := Lib.hid (by unfold gradeErr; rw [HKE.out, if_neg (by decide)])
              go_wp2_with (refine wpList_load_cells_g rfl 46 (.tmp 1) rfl p1 0 rfl C HLD.out _ Tryz.underlying46 rfl (by rw [HG.out.size]; exact grade_size) ?_)
              refine HSP.out.mono ?_
              rintro e w9 ⟨rfl, hb9⟩
              have HB9 : Hid (Below W.heap.size W w9) := Lib.hid (bcall HBF.out hb9)
              obtain ⟨sp, hsp⟩ : ∃ s, spareB g = s := ⟨_, rfl⟩
              rw [hsp] at HER ⊢
              clear hb9 hsp
              cases sp
              · simp only [Bool.not_false]
                go_wp2_with fail
                go_ret
                exact ⟨ErrIs (by rw [HER.out]; rfl), HB9.out⟩
              · simp only [Bool.not_true]
                go_wp2_with fail
                go_ret
                exact ⟨ErrIs (by rw [HER.out]; rfl), HB9.out⟩
          · by_cases k6 : kk = 6
            · subst k6
              obtain ⟨hD1, hD2⟩ := part_cells X1.out 46 3 (by rw [HG.out.size]; omega)
              obtain ⟨D, hD⟩ : ∃ D, C.extract 46 (46 + 3) = D := ⟨_, rfl⟩
              have hDg : ∀ k, k < 3 → D[k]? = some (.int .i64 (g.pts.getD k 0)) := fun k hk => by rw [← hD, part_get HG.out 46 3 (by omega) k hk]; exact HG.out.pts.2 k hk
              rw [hD] at hD1 hD2
              have HD := Lib.hid (And.intro hD1 (And.intro hD2 hDg))
              clear hD1 hD2 hDg hD
              go_wp2_with (refine wpList_load_cells rfl 44 (.tmp 50) rfl p1 46 rfl D HD.out.2.1 _ Tryz.underlying44 rfl (by rw [HD.out.1]; exact size_i3) ?_)
              refine (grade_checkPoints D g.pts HG.out.pts.1 HD.out.1 HD.out.2.2 W1).mono ?_
              rintro e w7 ⟨rfl, hb7⟩
              clear q0
              have HBW : Hid (Below W1.heap.size W1 w7) := Lib.hid (hb7)
              have BQ := X1.out.keep HBW.out
              have HSP := Lib.hid (grade_spare C g w7 (HG.out.keep (HW.out.trans (HBW.out.mono HW.out.size))))
              have HBF : Hid (Below W.heap.size W w7) := Lib.hid (HW.out.trans (HBW.out.mono HW.out.size))
              have HLD : Hid (∀ (j : Nat) (v : Value), C[j]? = some v → (w7 : World).cell? ⟨p1, 0 + j, none⟩ = some v) := Lib.hid (fun j v hj => by rw [BQ.all.1, Nat.zero_add]; exact hj)
              obtain ⟨E, hE⟩ : ∃ E, ptsErr g.pts = E := ⟨_, rfl⟩
              have HKE : Hid (kindErr g = E) := Lib.hid (by rw [← hE]; unfold kindErr; rw [if_neg (by rw [HKK.out]; decide), if_neg (by rw [HKK.out]; decide), if_neg (by rw [HKK.out]; decide), if_neg (by rw [HKK.out]; decide), if_neg (by rw [HKK.out]; decide), if_pos (by rw [HKK.out])])
              try rw [hE]
              clear BQ hE
              by_cases e0 : E = 0
              · have HER : Hid (gradeErr g = if spareB g then 0 else 12) := Lib.hid (by unfold gradeErr; rw [HKE.out, e0, if_neg (by decide)])
                subst e0
                go_wp2_with (refine wpList_load_cells_g rfl 46 (.tmp 1) rfl p1 0 rfl C HLD.out _ Tryz.underlying46 rfl (by rw [HG.out.size]; exact grade_size) ?_)
                refine HSP.out.mono ?_
                rintro e w9 ⟨rfl, hb9⟩
                have HB9 : Hid (Below W.heap.size W w9) := Lib.hid (bcall HBF.out hb9)
                obtain ⟨sp, hsp⟩ : ∃ s, spareB g = s := ⟨_, rfl⟩
                rw [hsp] at HER ⊢
                clear hb9 hsp
                cases sp
                · simp only [Bool.not_false]
                  go_wp2_with fail
                  go_ret
                  exact ⟨ErrIs (by rw [HER.out]; rfl), HB9.out⟩
                · simp only [Bool.not_true]
                  go_wp2_with fail
                  go_ret
                  exact ⟨ErrIs (by rw [HER.out]; rfl), HB9.out⟩
              · have HER : Hid (gradeErr g = E) := Lib.hid (by unfold gradeErr; rw [HKE.out, if_pos e0])
                go_wp2_with fail
                go_ret
                exact ⟨ErrIs HER.out.symm, HBF.out⟩
            · have HBW : Hid (Below W1.heap.size W1 W1) := Lib.hid (Below.refl _ _)
              have BQ := X1.out.keep HBW.out
              have HSP := Lib.hid (grade_spare C g W1 (HG.out.keep (HW.out.trans (HBW.out.mono HW.out.size))))
              have HBF : Hid (Below W.heap.size W W1) := Lib.hid (HW.out.trans (HBW.out.mono HW.out.size))
              have HLD : Hid (∀ (j : Nat) (v : Value), C[j]? = some v → (W1 : World).cell? ⟨p1, 0 + j, none⟩ = some v) := Lib.hid (fun j v hj => by rw [BQ.all.1, Nat.zero_add]; exact hj)
              have HKE : Hid (kindErr g = 1) := Lib.hid (by unfold kindErr; rw [if_neg (by rw [HKK.out]; exact k1), if_neg (by rw [HKK.out]; exact k2), if_neg (by rw [HKK.out]; exact k3), if_neg (by rw [HKK.out]; exact k4), if_neg (by rw [HKK.out]; exact k5), if_neg (by rw [HKK.out]; exact k6)])
              clear BQ
              have HER : Hid (gradeErr g = 1) := Lib.hid (by unfold gradeErr; rw [HKE.out, if_pos (by decide)])
              go_wp2_with fail
              go_ret
              exact ⟨ErrIs HER.out.symm, HBF.out⟩
end Go.Proofs.YticekgnmiaidjaaGreatDoor
