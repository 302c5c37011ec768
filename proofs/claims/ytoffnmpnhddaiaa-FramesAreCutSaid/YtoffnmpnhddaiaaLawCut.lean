/- FramesAreCut, walked. -/
import Derived.Test.YtoffnmpnhddaiaaCutA
import Derived.Test.YtoffnmpnhddaiaaCutD
import Derived.Test.YtoffnmpnhddaiaaCutF
import Derived.Test.YtoffnmpnhddaiaaCutH
import Derived.Test.YtoffnmpnhddaiaaSame
import Derived.Test.YtoffnmpnhddaiaaFrBx
import Derived.Test.YtoffnmpnhddaiaaGrd
import Derived.Deep.DeepCutAuto
namespace Go.Proofs.Ytoffnmpnhddaiaa
open Go.RowKit

theorem ref_Inside_is (ax ay aw ah bx b_y bw bh : Int) (r : Bool) (hv : inB ax ay aw ah bx b_y bw bh = r) (W : World) (h1 : -10000000 ≤ bx) (h2 : bx ≤ 10000000) (h3 : -10000000 ≤ b_y) (h4 : b_y ≤ 10000000) (h5 : 0 ≤ bw) (h6 : bw ≤ 1000) (h7 : 0 ≤ bh) (h8 : bh ≤ 1000) (h9 : 0 ≤ aw) (h10 : aw ≤ 1000) (h11 : 0 ≤ ah) (h12 : ah ≤ 1000) :
    Calls Try.prog 21 #[.agg #[.int .i64 ax, .int .i64 ay, .int .i64 aw, .int .i64 ah], .agg #[.int .i64 bx, .int .i64 b_y, .int .i64 bw, .int .i64 bh]] W fun e w' => e = .returned (.bool r) ∧ Below W.heap.size W w' := by
  subst hv
  exact ref_Inside ax ay aw ah bx b_y bw bh W h1 h2 h3 h4 h5 h6 h7 h8 h9 h10 h11 h12

@[go_sem] theorem run_eq_pix0 (w : World) : (Op.equalIn 10000 35 (.agg #[.float .f32 0, .float .f32 0, .float .f32 0, .float .f32 0]) (.agg #[.float .f32 0, .float .f32 0, .float .f32 0, .float .f32 0])).run Try.prog w = .ok true w := by kernel_rfl
theorem law_exact_same (a : Nat) (w : World) : Calls Try.prog 24 #[.float .f32 a, .float .f32 a] w fun e w' => e = .returned (.bool true) ∧ w = w' :=
  (law_exact a a w).mono fun _ _ ⟨h1, h2⟩ => ⟨by rw [h1]; simp, h2⟩
theorem put_made (xs : List Nat) (w h i j : Nat) (F : Nat → Nat) (hi : i < w) :
    ((List.range (4 * (w * h))).map fun k => canon (putV xs (4 * (j * w + i)) F k)) = madeL (pasteP xs (madeL (fun _ c => F c) (4 * 1)) w 1 i j 0 0 1 1) (4 * (w * h)) := by
  unfold madeL pasteP
  apply List.map_congr_left
  intro k hk
  have hw : 0 < w := by omega
  have d1 := Nat.div_add_mod (k / 4) w
  have d3 := Nat.mod_lt (k / 4) hw
  have h4 := Nat.mod_lt k (show 0 < 4 by omega)
  unfold putV
  by_cases hc : j ≤ k / 4 / w ∧ k / 4 / w < j + 1 ∧ i ≤ k / 4 % w ∧ k / 4 % w < i + 1
  · have e1 : k / 4 / w = j := by omega
    have e2 : k / 4 % w = i := by omega
    rw [if_pos hc, e1, e2]
    rw [e1, e2, Nat.mul_comm] at d1
    generalize j * w = A at *
    rw [if_pos (by omega)]
    have e3 : k - 4 * (A + i) = k % 4 := by omega
    have e4 : 4 * ((0 + (j - j)) * 1 + 0 + (i - i)) + k % 4 = k % 4 := by omega
    rw [e3, e4]
    simp [h4, canon_idem]
  · rw [if_neg hc]
    have hn : ¬ (4 * (j * w + i) ≤ k ∧ k < 4 * (j * w + i) + 4) := by
      intro hh
      have hq : k / 4 = w * j + i := by rw [Nat.mul_comm w j]; omega
      apply hc
      rw [hq, Nat.mul_add_div hw, Nat.div_eq_of_lt hi, Nat.mul_add_mod, Nat.mod_eq_of_lt hi]
      omega
    rw [if_neg hn]
    have : 4 * (k / 4) + k % 4 = k := by omega
    rw [this]

/-- The law's state: two right frames, a region, a pixel. -/
def CutSt (W : World) (rc pc : Array Value) (wx : World) : Prop :=
  (∃ fx fy fw fh M g zs, FrBx wx (W.heap.size + 1 + 1 + 1 + 1) W.heap.size fx fy fw fh M g zs) ∧ (∃ fx fy fw fh M g zs, FrBx wx (W.heap.size + 1 + 1 + 1 + 1) (W.heap.size + 1) fx fy fw fh M g zs) ∧ Bx wx (W.heap.size + 1 + 1) 23 rc ∧ Bx wx (W.heap.size + 1 + 1 + 1) 35 pc ∧ Below W.heap.size W wx

set_option maxRecDepth 100000 in
set_option maxHeartbeats 64000000 in
theorem law_FramesAreCut (x y w h : Int) (v : Value) (xs : List Nat) (x2 y2 w2 h2 : Int) (v2 : Value) (ys : List Nat) (rx ry rw_ rh pu pv : Int) (F : Nat → Nat) (W : World) (hs1 : Sl W v xs) (hs2 : Sl W v2 ys) :
    Calls Try.prog 11 #[.agg #[.int .i64 x, .int .i64 y, .int .i64 w, .int .i64 h, v], .agg #[.int .i64 x2, .int .i64 y2, .int .i64 w2, .int .i64 h2, v2], .agg #[.int .i64 rx, .int .i64 ry, .int .i64 rw_, .int .i64 rh], .int .i64 pu, .int .i64 pv, .agg #[.float .f32 (F 0), .float .f32 (F 1), .float .f32 (F 2), .float .f32 (F 3)]] W fun e w' =>
      e = .returned (.bool true) ∧ Below W.heap.size W w' := by
  have hv1 : v.cells = #[v] := by rcases hs1 with ⟨b, o, c, rfl, _⟩ | ⟨_, a, c, rfl⟩ <;> rfl
  have hv2 : v2.cells = #[v2] := by rcases hs2 with ⟨b, o, c, rfl, _⟩ | ⟨_, a, c, rfl⟩ <;> rfl
  go_enter Try.func11, Try.ntmps11
  go_upto_region 3 with (go_at_call 15; refine (law_landed _).mono ?_; rintro e w' ⟨rfl, rfl⟩)
  refine name_world ?_
  intro wa hwa
  have x0 : Bx wa W.heap.size 26 #[.int .i64 x, .int .i64 y, .int .i64 w, .int .i64 h, v] := by rw [hwa]; exact Bx.alloc (Bx.alloc (Bx.alloc (Bx.new _ _ _) _) _) _
  have x1 : Bx wa (W.heap.size + 1) 26 #[.int .i64 x2, .int .i64 y2, .int .i64 w2, .int .i64 h2, v2] := by rw [hwa]; exact Bx.alloc (Bx.alloc (Bx.at _ (by simp)) _) _
  have x2' : Bx wa (W.heap.size + 1 + 1) 23 #[.int .i64 rx, .int .i64 ry, .int .i64 rw_, .int .i64 rh] := by rw [hwa]; exact Bx.alloc (Bx.at _ (by simp)) _
  have x3' : Bx wa (W.heap.size + 1 + 1 + 1) 35 #[.float .f32 (F 0), .float .f32 (F 1), .float .f32 (F 2), .float .f32 (F 3)] := by rw [hwa]; exact Bx.at _ (by simp)
  have Ba : Below W.heap.size W wa := by rw [hwa]; exact bnew (bnew (bnew (bnew (Below.refl _ W))))
  clear hwa
  go_cut [] (fun wx => CutSt W #[.int .i64 rx, .int .i64 ry, .int .i64 rw_, .int .i64 rh] #[.float .f32 (F 0), .float .f32 (F 1), .float .f32 (F 2), .float .f32 (F 3)] wx)
  case first =>
    have lx2 := x3'.lt
    refine wp_region_rel 4 (fun q u w' => if q = 1 then (∃ g N, ((N : Nat) : Int) = 4 * fitSide w * fitSide h ∧ u = .agg #[.int .i64 (fitPlace x), .int .i64 (fitPlace y), .int .i64 (fitSide w), .int .i64 (fitSide h), .slice (some ⟨g, 0, none⟩) N N] ∧ wa.heap.size ≤ g ∧ Row w' g N (fitV xs N)) else if q = 3 then (∃ g N, ((N : Nat) : Int) = 4 * fitSide w2 * fitSide h2 ∧ u = .agg #[.int .i64 (fitPlace x2), .int .i64 (fitPlace y2), .int .i64 (fitSide w2), .int .i64 (fitSide h2), .slice (some ⟨g, 0, none⟩) N N] ∧ wa.heap.size ≤ g ∧ Row w' g N (fitV ys N)) else u = [.agg #[.int .i64 x, .int .i64 y, .int .i64 w, .int .i64 h, v], undef, .agg #[.int .i64 x2, .int .i64 y2, .int .i64 w2, .int .i64 h2, v2], undef].getD q undef) (fun _ => false) (fun w' => Below wa.heap.size wa w') (by kernel_rfl) (by kernel_rfl)
      (fun _ _ h e => e.trans (h.mono e.size)) (fun t u a b hb h => ?_) (Below.refl _ _).drew ?_ ?_
    · split
      · rename_i h4
        rw [if_pos h4] at h
        obtain ⟨g, N, e1, e2, e3, e4⟩ := h
        exact ⟨g, N, e1, e2, e3, e4.keep hb⟩
      · rename_i h4
        rw [if_neg h4] at h
        split
        · rename_i h5
          rw [if_pos h5] at h
          obtain ⟨g, N, e1, e2, e3, e4⟩ := h
          exact ⟨g, N, e1, e2, e3, e4.keep hb⟩
        · rename_i h5
          rw [if_neg h5] at h
          exact h
    · intro t op ht hop
      rcases (by omega : t = 0 ∨ t = 1 ∨ t = 2 ∨ t = 3) with rfl | rfl | rfl | rfl
      all_goals simp only [List.getElem?_cons_zero, List.getElem?_cons_succ, Option.some.injEq] at hop
      all_goals subst hop
      all_goals intro a wx hE hag hdep
      · have e0 := slot_eq (hag 6 rfl)
        have hq := (x0.keep hE).all.1
        exact rel_pure _ rfl rfl (by simp [go_sem, e0, hq])
      · have e0 := slot_eq (hdep ⟨0, .data⟩ (by simp) rfl)
        refine rel_call (f := 16) (args := #[.agg #[.int .i64 x, .int .i64 y, .int .i64 w, .int .i64 h, v]]) (run_go_call Try.func16 (by kernel_rfl) (by kernel_rfl) _ _ _ _ _ _ _ _ _ _ (by simp [Act.eval, e0])) rfl ?_
        refine (law_fit _ _ _ _ _ xs _ (hs1.keep (Ba.trans (hE.mono Ba.size)))).mono ?_
        rintro e w' ⟨g, N, hN, rfl, hg, hrow, hb⟩
        exact ⟨_, rfl, ⟨g, N, hN, rfl, Nat.le_trans hE.size hg, hrow⟩, hb⟩
      · have e0 := slot_eq (hag 7 rfl)
        have hq := (x1.keep hE).all.1
        exact rel_pure _ rfl rfl (by simp [go_sem, e0, hq])
      · have e0 := slot_eq (hdep ⟨2, .data⟩ (by simp) rfl)
        refine rel_call (f := 16) (args := #[.agg #[.int .i64 x2, .int .i64 y2, .int .i64 w2, .int .i64 h2, v2]]) (run_go_call Try.func16 (by kernel_rfl) (by kernel_rfl) _ _ _ _ _ _ _ _ _ _ (by simp [Act.eval, e0])) rfl ?_
        refine (law_fit _ _ _ _ _ ys _ (hs2.keep (Ba.trans (hE.mono Ba.size)))).mono ?_
        rintro e w' ⟨g, N, hN, rfl, hg, hrow, hb⟩
        exact ⟨_, rfl, ⟨g, N, hN, rfl, Nat.le_trans hE.size hg, hrow⟩, hb⟩
    · intro vs wx hE hvs _
      obtain ⟨g1, N1, hN1, k1, hg1, row1⟩ := hvs 1 (by omega)
      obtain ⟨g2, N2, hN2, k3, hg2, row2⟩ := hvs 3 (by omega)
      simp only [List.drop_succ_cons, List.drop_zero, putAll, dstAt, List.getElem?_toArray, List.getElem?_cons_zero, List.getElem?_cons_succ, Option.bind_some, Act.put, List.setIfInBounds_toArray, List.set_cons_zero, List.set_cons_succ, k1, k3]
      clear hvs k1 k3
      have y0 := x0.keep hE
      have y1 := x1.keep hE
      have y2' := x2'.keep hE
      have y3' := x3'.keep hE
      have B2 := Ba.trans (hE.mono Ba.size)
      obtain ⟨M1, rfl, H1⟩ := fit_right (x := x) (y := y) (xs := xs) hN1
      obtain ⟨M2, rfl, H2⟩ := fit_right (x := x2) (y := y2) (xs := ys) hN2
      clear x0 x1 x2' x3' hE hs1 hs2 hN1 hN2
      obtain ⟨q0, f0, l0⟩ := y0.all
      obtain ⟨q1, f1, l1⟩ := y1.all
      obtain ⟨z0, on1⟩ := set5 y0 (.int .i64 (fitPlace x)) (.int .i64 (fitPlace y)) (.int .i64 (fitSide w)) (.int .i64 (fitSide h)) (.slice (some ⟨g1, 0, none⟩) (4 * M1) (4 * M1))
      obtain ⟨z1, on2⟩ := set5 (on1.bx (by omega) y1) (.int .i64 (fitPlace x2)) (.int .i64 (fitPlace y2)) (.int .i64 (fitSide w2)) (.int .i64 (fitSide h2)) (.slice (some ⟨g2, 0, none⟩) (4 * M2) (4 * M2))
      go_wp2_with fail
      go_meet
      exact ⟨⟨_, _, _, _, M1, g1, _, on2.bx (by omega) z0, on2.rd (by omega) (on1.rd (by omega) row1.rd), by omega, H1⟩, ⟨_, _, _, _, M2, g2, _, z1, on2.rd (by omega) (on1.rd (by omega) row2.rd), by omega, H2⟩, on2.bx (by omega) (on1.bx (by omega) y2'), on2.bx (by omega) (on1.bx (by omega) y3'), bonly (bonly B2 on1 (by omega)) on2 (by omega)⟩
  case rest =>
    have st := hcut
    clear hcut x0 x1 x2' x3' Ba hs1 hs2
    obtain ⟨⟨fx, fy, fwi, fhi, M, g1, zs, fa⟩, ⟨gx, gy, gwi, ghi, M2, g2, zs2, fb⟩, xR, xP, B⟩ := st
    have hga := fa.2.2.1
    have hgb := fb.2.2.1
    obtain ⟨a1, a2, a3, a4, a5, a6, a7, a8⟩ := fa.bd
    obtain ⟨b1, b2, b3, b4, b5, b6, b7, b8⟩ := fb.bd
    obtain ⟨fw, rfl⟩ := Int.eq_ofNat_of_zero_le (show 0 ≤ fwi by omega)
    obtain ⟨fh, rfl⟩ := Int.eq_ofNat_of_zero_le (show 0 ≤ fhi by omega)
    obtain ⟨gw, rfl⟩ := Int.eq_ofNat_of_zero_le (show 0 ≤ gwi by omega)
    obtain ⟨gh, rfl⟩ := Int.eq_ofNat_of_zero_le (show 0 ≤ ghi by omega)
    have ma : M = fw * fh := by exact_mod_cast a2
    have mb : M2 = gw * gh := by exact_mod_cast b2
    have hd := Lib.hid (And.intro a1 (And.intro a2 (And.intro ma (And.intro b1 (And.intro b2 mb)))))
    clear a1 a2 b1 b2 ma mb
    generalize hkk : checkRegion rx ry rw_ rh = k
    have hk := Lib.hid hkk
    clear hkk
    by_cases hk0 : k = 0
    · subst hk0
      obtain ⟨Mr, hr⟩ : ∃ Mr : Nat, Hid ((Mr : Int) = rw_ * rh) := ⟨(rw_ * rh).toNat, Lib.hid (by obtain ⟨c1, c2, c3, c4, c5, _⟩ := checkRegion_zero hk.out; have := mul_bd rw_ rh c1 c2 c3 c4; omega)⟩
      obtain ⟨q0, f0, l0⟩ := fa.1.all
      obtain ⟨q1, f1, l1⟩ := fb.1.all
      obtain ⟨q2, f2, l2⟩ := xR.all
      obtain ⟨q3, f3, l3⟩ := xP.all
      go_wp2_with fail
      refine (frame_Fill_ok _ _ _ _ Mr F _ hk.out hr.out).mono ?_
      rintro e wv ⟨gr, rfl, hgr, row, hb⟩
      clear q0 f0 l0 q1 f1 l1 q2 f2 l2 q3 f3 l3
      replace fa := fa.keep hb
      replace fb := fb.keep hb
      replace xR := xR.keep hb
      replace xP := xP.keep hb
      replace B := bcall B hb
      clear hb
      have rr := row.rd
      clear row
      have hxp : W.heap.size + 1 + 1 + 1 < wv.heap.size := xP.lt
      obtain ⟨q0, f0, l0⟩ := fa.1.all
      obtain ⟨q1, f1, l1⟩ := fb.1.all
      obtain ⟨q2, f2, l2⟩ := xR.all
      obtain ⟨q3, f3, l3⟩ := xP.all
      go_wp2_with fail
      refine nm_call ?_
      intro wn hwn
      have x13 : Bx wn wv.heap.size 26 #[.int .i64 rx, .int .i64 ry, .int .i64 rw_, .int .i64 rh, .slice (some ⟨gr, 0, none⟩) (4 * Mr) (4 * Mr)] := by rw [hwn]; exact Bx.new _ _ _
      have hb : Below wv.heap.size wv wn := by rw [hwn]; exact bnew (Below.refl _ _)
      clear q0 f0 l0 q1 f1 l1 q2 f2 l2 q3 f3 l3
      replace fa := fa.keep hb
      replace fb := fb.keep hb
      replace xR := xR.keep hb
      replace xP := xP.keep hb
      replace rr := rr.keep hb
      replace B := bcall B hb
      clear hwn hb
      generalize wv.heap.size = p13 at *
      refine (ref_RegionError _ _ _ _ _).mono ?_
      rintro e wv ⟨rfl, hb⟩
      replace fa := fa.keep hb
      replace fb := fb.keep hb
      replace xR := xR.keep hb
      replace xP := xP.keep hb
      replace x13 := x13.keep hb
      replace rr := rr.keep hb
      replace B := bcall B hb
      clear hb
      rw [hk.out]
      obtain ⟨q0, f0, l0⟩ := fa.1.all
      obtain ⟨q1, f1, l1⟩ := fb.1.all
      obtain ⟨q2, f2, l2⟩ := xR.all
      obtain ⟨q3, f3, l3⟩ := xP.all
      obtain ⟨q4, f4, l4⟩ := x13.all
      go_wp2_with fail
      clear q0 f0 l0 q1 f1 l1 q2 f2 l2 q3 f3 l3 q4 f4 l4
      refine wp_region_grd 14 (fun _ => false) (fun q u w' => if q = 10 then ∃ g c, u = .agg #[.int .i64 rx, .int .i64 ry, .int .i64 rw_, .int .i64 rh, .slice (some ⟨g, 0, none⟩) (4 * Mr) c] ∧ wv.heap.size ≤ g ∧ Rd w' g 0 ((List.range (4 * Mr)).map fun k => canon (F (k % 4))) else u = [.int .i64 0, .int .i64 0, .bool false, .bool false, .int .i64 0, .bool true, .bool true, .agg #[.int .i64 rx, .int .i64 ry, .int .i64 rw_, .int .i64 rh, .slice (some ⟨gr, 0, none⟩) (4 * Mr) (4 * Mr)], .agg #[.int .i64 rx, .int .i64 ry, .int .i64 rw_, .int .i64 rh], .func (.func 61) #[] #[.pointer (some ⟨W.heap.size + 1 + 1 + 1, 0, none⟩)], undef, .bool true, .bool false, .bool false].getD q undef) (fun _ => false) (fun w' => Below wv.heap.size wv w') (by kernel_rfl) (by kernel_rfl) (fun _ _ _ _ _ h => h)
        (fun _ _ h e => e.trans (h.mono e.size)) (fun t u a' b' hb h => ?_) (Below.refl _ _).drew ?_ ?_ ?_
      · split
        · rename_i h4
          rw [if_pos h4] at h
          obtain ⟨g, c, e1, e2, e3⟩ := h
          exact ⟨g, c, e1, e2, e3.keep hb⟩
        · rename_i h4
          rw [if_neg h4] at h
          exact h
      · intro t op ht hlt hop
        clear hlt
        rcases (by omega : t = 0 ∨ t = 1 ∨ t = 2 ∨ t = 3 ∨ t = 4 ∨ t = 5 ∨ t = 6 ∨ t = 7 ∨ t = 8 ∨ t = 9 ∨ t = 10 ∨ t = 11 ∨ t = 12 ∨ t = 13) with rfl | rfl | rfl | rfl | rfl | rfl | rfl | rfl | rfl | rfl | rfl | rfl | rfl | rfl
        all_goals simp only [List.getElem?_cons_zero, List.getElem?_cons_succ, Option.some.injEq] at hop
        all_goals subst hop
        all_goals intro a wx hE hag hdep
        · refine grd_none rfl ?_
          have e0 := slot_eq (hag 14 rfl)
          exact rel_pure _ rfl rfl (by simp [go_sem, e0])
        · refine grd_none rfl ?_
          have e0 := slot_eq (hag 15 rfl)
          exact rel_pure _ rfl rfl (by simp [go_sem, e0])
        · refine grd_none rfl ?_
          have e0 := slot_eq (hdep ⟨0, .data⟩ (by simp) rfl)
          have e1 := slot_eq (hdep ⟨1, .data⟩ (by simp) rfl)
          exact rel_pure _ rfl rfl (by simp [go_sem, e0, e1])
        · refine grd_none rfl ?_
          have e0 := slot_eq (hdep ⟨2, .data⟩ (by simp) rfl)
          exact rel_pure _ rfl rfl (by simp [go_sem, e0])
        · refine grd_yes (j := 3) (b := false) rfl (hdep ⟨3, .guard⟩ (by simp) rfl) ?_
          have e0 := slot_eq (hag 14 rfl)
          exact rel_pure _ rfl rfl (by simp [go_sem, e0])
        · refine grd_yes (j := 3) (b := false) rfl (hdep ⟨3, .guard⟩ (by simp) rfl) ?_
          have e0 := slot_eq (hdep ⟨4, .data⟩ (by simp) rfl)
          exact rel_pure _ rfl rfl (by simp [go_sem, e0])
        · refine grd_yes (j := 3) (b := false) rfl (hdep ⟨3, .guard⟩ (by simp) rfl) ?_
          have e0 := slot_eq (hdep ⟨5, .data⟩ (by simp) rfl)
          exact rel_pure _ rfl rfl (by simp [go_sem, e0])
        · refine grd_yes (j := 6) (b := true) rfl (hdep ⟨6, .guard⟩ (by simp) rfl) ?_
          have e0 := slot_eq (hag 13 rfl)
          have hq := (x13.keep hE).all.1
          exact rel_pure _ rfl rfl (by simp [go_sem, e0, hq])
        · refine grd_yes (j := 6) (b := true) rfl (hdep ⟨6, .guard⟩ (by simp) rfl) ?_
          have e0 := slot_eq (hag 8 rfl)
          have hq := (xR.keep hE).all.1
          exact rel_pure _ rfl rfl (by simp [go_sem, e0, hq])
        · refine grd_yes (j := 6) (b := true) rfl (hdep ⟨6, .guard⟩ (by simp) rfl) ?_
          have e0 := slot_eq (hag 11 rfl)
          exact rel_pure _ rfl rfl (by simp [go_sem, e0])
        · refine grd_yes (j := 6) (b := true) rfl (hdep ⟨6, .guard⟩ (by simp) rfl) ?_
          have e0 := slot_eq (hdep ⟨8, .data⟩ (by simp) rfl)
          have e1 := slot_eq (hdep ⟨9, .data⟩ (by simp) rfl)
          refine rel_call (f := 60) (args := #[.agg #[.int .i64 rx, .int .i64 ry, .int .i64 rw_, .int .i64 rh], .func (.func 61) #[] #[.pointer (some ⟨W.heap.size + 1 + 1 + 1, 0, none⟩)]]) (run_go_call Try.func60 (by kernel_rfl) (by kernel_rfl) _ _ _ _ _ _ _ _ _ _ (by simp [Act.eval, e0, e1])) rfl ?_
          obtain ⟨rwN, rfl⟩ := Int.eq_ofNat_of_zero_le (show 0 ≤ rw_ by have := checkRegion_zero hk.out; omega)
          obtain ⟨rhN, rfl⟩ := Int.eq_ofNat_of_zero_le (show 0 ≤ rh by have := checkRegion_zero hk.out; omega)
          have hmr : Mr = rwN * rhN := by have := hr.out; exact_mod_cast this
          obtain ⟨c1, c2, c3, c4, c5, c6, c7, c8, c9⟩ := checkRegion_zero hk.out
          refine (ref_Made rx ry rwN rhN Mr _ _ _ wx hmr (by have := hr.out; omega) (by omega) (by omega) (by omega) (by omega) (by omega) (by omega) (by omega) (by omega) (const_makes1 rx ry rwN rhN _ _ F wx (xP.keep hE))).mono ?_
          rintro e w' ⟨g, c, rfl, hcc, hg, hrd, hb⟩
          exact ⟨_, rfl, ⟨g, c, rfl, Nat.le_trans hE.size hg, hrd⟩, hb⟩
        · refine grd_yes (j := 6) (b := true) rfl (hdep ⟨6, .guard⟩ (by simp) rfl) ?_
          have e0 := slot_eq (hdep ⟨7, .data⟩ (by simp) rfl)
          obtain ⟨g, c, e1, hg, hrd⟩ := hdep ⟨10, .data⟩ (by simp) rfl
          have e1 := slot_eq e1
          refine rel_call (f := 29) (args := #[.agg #[.int .i64 rx, .int .i64 ry, .int .i64 rw_, .int .i64 rh, .slice (some ⟨gr, 0, none⟩) (4 * Mr) (4 * Mr)], .agg #[.int .i64 rx, .int .i64 ry, .int .i64 rw_, .int .i64 rh, .slice (some ⟨g, 0, none⟩) (4 * Mr) c]]) (run_go_call Try.func29 (by kernel_rfl) (by kernel_rfl) _ _ _ _ _ _ _ _ _ _ (by simp [Act.eval, e0, e1])) rfl ?_
          refine (ref_SameFrame _ _ _ _ _ _ _ _ _ _ _ _ wx (by have := hr.out; have := checkRegion_zero hk.out; omega) (by rw [List.length_map, List.length_range]) (rr.keep hE) hrd).mono ?_
          rintro e w' ⟨rfl, hb⟩
          exact ⟨_, rfl, rfl, hb⟩
        · refine grd_yes (j := 6) (b := true) rfl (hdep ⟨6, .guard⟩ (by simp) rfl) ?_
          have e0 := slot_eq (hdep ⟨11, .data⟩ (by simp) rfl)
          exact rel_pure _ rfl rfl (by simp [go_sem, e0])
        · refine grd_yes (j := 3) (b := false) rfl (hdep ⟨3, .guard⟩ (by simp) rfl) ?_
          have e0 := slot_eq (hdep ⟨6, .data⟩ (by simp) rfl)
          have e1 := slot_eq (hdep ⟨12, .data⟩ (by simp) rfl)
          exact rel_pure _ rfl rfl (by simp [go_sem, e0, e1])
      · intro t op ht hlt; cases hlt
      · intro vs wv2 hE hvs _
        have k3 : vs 3 = .bool false := hvs 3 (by omega)
        have k13 : vs 13 = .bool false := hvs 13 (by omega)
        simp only [List.drop_succ_cons, List.drop_zero, putAll, dstAt, List.getElem?_toArray, List.getElem?_cons_zero, List.getElem?_cons_succ, Option.bind_some, Act.put, List.setIfInBounds_toArray, List.set_cons_zero, List.set_cons_succ, k3, k13]
        clear hvs k3 k13
        replace fa := fa.keep hE
        replace fb := fb.keep hE
        replace xR := xR.keep hE
        replace xP := xP.keep hE
        replace x13 := x13.keep hE
        replace B := B.trans (hE.mono B.size)
        clear hE rr hgr
        clear x13
        cases hI : inB pu pv 1 1 fx fy fw fh
        · have hh : Hid (hasB fx fy fw fh pu pv = false) := Lib.hid (by rw [← Bool.not_eq_true] at hI ⊢; unfold inB at hI; unfold hasB; simp only [Bool.and_eq_true, decide_eq_true_eq] at hI ⊢; omega)
          have hi := Lib.hid hI
          clear hI
          obtain ⟨q0, f0, l0⟩ := fa.1.all
          obtain ⟨q1, f1, l1⟩ := fb.1.all
          obtain ⟨q2, f2, l2⟩ := xR.all
          obtain ⟨q3, f3, l3⟩ := xP.all
          go_wp2_with fail
          refine (ref_Inside_is _ _ _ _ _ _ _ _ false hi.out _ (by omega) (by omega) (by omega) (by omega) (by omega) (by omega) (by omega) (by omega) (by omega) (by omega) (by omega) (by omega)).mono ?_
          rintro e wv ⟨rfl, hb⟩
          clear q0 f0 l0 q1 f1 l1 q2 f2 l2 q3 f3 l3
          replace fa := fa.keep hb
          replace fb := fb.keep hb
          replace xR := xR.keep hb
          replace xP := xP.keep hb
          replace B := bcall B hb
          clear hb
          obtain ⟨q0, f0, l0⟩ := fa.1.all
          obtain ⟨q1, f1, l1⟩ := fb.1.all
          obtain ⟨q2, f2, l2⟩ := xR.all
          obtain ⟨q3, f3, l3⟩ := xP.all
          go_wp2_with fail
          refine (frame_At_out _ _ _ _ pu pv _ _ _ _ (by unfold maxLen; omega) fa.chk fa.reg hh.out).mono ?_
          rintro e wv ⟨rfl, hb⟩
          clear q0 f0 l0 q1 f1 l1 q2 f2 l2 q3 f3 l3
          replace fa := fa.keep hb
          replace fb := fb.keep hb
          replace xR := xR.keep hb
          replace xP := xP.keep hb
          replace B := bcall B hb
          clear hb
          have hx17 : W.heap.size + 1 + 1 + 1 < wv.heap.size := xP.lt
          obtain ⟨q0, f0, l0⟩ := fa.1.all
          obtain ⟨q1, f1, l1⟩ := fb.1.all
          obtain ⟨q2, f2, l2⟩ := xR.all
          obtain ⟨q3, f3, l3⟩ := xP.all
          go_wp2_with fail
          refine nm_call ?_
          intro wn hwn
          have x17 : Bx wn wv.heap.size 35 #[.float .f32 0, .float .f32 0, .float .f32 0, .float .f32 0] := by rw [hwn]; exact Bx.new _ _ _
          have hb : Below wv.heap.size wv wn := by rw [hwn]; exact bnew (Below.refl _ _)
          clear q0 f0 l0 q1 f1 l1 q2 f2 l2 q3 f3 l3
          replace fa := fa.keep hb
          replace fb := fb.keep hb
          replace xR := xR.keep hb
          replace xP := xP.keep hb
          replace B := bcall B hb
          clear hwn hb
          generalize wv.heap.size = p17 at *
          refine (frame_Put_out _ _ _ _ pu pv _ _ _ F _ (by unfold maxLen; omega) fa.chk fa.reg hh.out).mono ?_
          rintro e wv ⟨rfl, hb⟩
          replace fa := fa.keep hb
          replace fb := fb.keep hb
          replace xR := xR.keep hb
          replace xP := xP.keep hb
          replace x17 := x17.keep hb
          replace B := bcall B hb
          clear hb
          have hx18 : p17 < wv.heap.size := x17.lt
          obtain ⟨q0, f0, l0⟩ := fa.1.all
          obtain ⟨q1, f1, l1⟩ := fb.1.all
          obtain ⟨q2, f2, l2⟩ := xR.all
          obtain ⟨q3, f3, l3⟩ := xP.all
          obtain ⟨q4, f4, l4⟩ := x17.all
          go_wp2_with fail
          refine nm_call ?_
          intro wn hwn
          have x18 : Bx wn wv.heap.size 26 #[.int .i64 0, .int .i64 0, .int .i64 0, .int .i64 0, .slice none 0 0] := by rw [hwn]; exact Bx.new _ _ _
          have hb : Below wv.heap.size wv wn := by rw [hwn]; exact bnew (Below.refl _ _)
          clear q0 f0 l0 q1 f1 l1 q2 f2 l2 q3 f3 l3 q4 f4 l4
          replace fa := fa.keep hb
          replace fb := fb.keep hb
          replace xR := xR.keep hb
          replace xP := xP.keep hb
          replace x17 := x17.keep hb
          replace B := bcall B hb
          clear hwn hb
          generalize wv.heap.size = p18 at *
          clear x17 x18
          obtain ⟨q0, f0, l0⟩ := fa.1.all
          obtain ⟨q1, f1, l1⟩ := fb.1.all
          obtain ⟨q2, f2, l2⟩ := xR.all
          obtain ⟨q3, f3, l3⟩ := xP.all
          go_wp2_with fail
          cases hI2 : inB rx ry rw_ rh fx fy fw fh
          · have hi2 := Lib.hid hI2
            clear hI2
            have hcr : Hid ((1 ≤ rw_ ∧ rw_ ≤ 256) ∧ (1 ≤ rh ∧ rh ≤ 256)) := Lib.hid (by have := checkRegion_zero hk.out; omega)
            refine (frame_Cut_out _ _ _ _ _ _ _ _ _ _ _ _ (by unfold maxLen; omega) fa.chk fa.reg hk.out hi2.out).mono ?_
            rintro e wv ⟨rfl, hb⟩
            clear q0 f0 l0 q1 f1 l1 q2 f2 l2 q3 f3 l3
            replace fa := fa.keep hb
            replace fb := fb.keep hb
            replace xR := xR.keep hb
            replace xP := xP.keep hb
            replace B := bcall B hb
            clear hb
            obtain ⟨q0, f0, l0⟩ := fa.1.all
            obtain ⟨q1, f1, l1⟩ := fb.1.all
            obtain ⟨q2, f2, l2⟩ := xR.all
            obtain ⟨q3, f3, l3⟩ := xP.all
            go_wp2_with fail
            refine nm_call ?_
            intro wn hwn
            have x22 : Bx wn wv.heap.size 26 #[.int .i64 0, .int .i64 0, .int .i64 0, .int .i64 0, .slice none 0 0] := by rw [hwn]; exact Bx.new _ _ _
            have hb : Below wv.heap.size wv wn := by rw [hwn]; exact bnew (Below.refl _ _)
            clear q0 f0 l0 q1 f1 l1 q2 f2 l2 q3 f3 l3
            replace fa := fa.keep hb
            replace fb := fb.keep hb
            replace xR := xR.keep hb
            replace xP := xP.keep hb
            replace B := bcall B hb
            clear hwn hb
            generalize wv.heap.size = p22 at *
            refine (ref_Inside_is _ _ _ _ _ _ _ _ false hi2.out _ (by omega) (by omega) (by omega) (by omega) (by omega) (by omega) (by omega) (by omega) (by have := hcr.out; omega) (by have := hcr.out; omega) (by have := hcr.out; omega) (by have := hcr.out; omega)).mono ?_
            rintro e wv ⟨rfl, hb⟩
            replace fa := fa.keep hb
            replace fb := fb.keep hb
            replace xR := xR.keep hb
            replace xP := xP.keep hb
            replace x22 := x22.keep hb
            replace B := bcall B hb
            clear hb
            clear x22
            obtain ⟨q0, f0, l0⟩ := fa.1.all
            obtain ⟨q1, f1, l1⟩ := fb.1.all
            obtain ⟨q2, f2, l2⟩ := xR.all
            obtain ⟨q3, f3, l3⟩ := xP.all
            go_wp2_with fail
            rcases common_meet fx fy fw fh gx gy gw gh (by omega) (by omega) (by omega) (by omega) with ⟨i0, j0, i1, j1, cw, ch, hm, hcm⟩ | ⟨hcm, _⟩
            · have Hm := Lib.hid (And.intro hm hcm)
              clear hm hcm
              refine (frame_Paste_ok fx fy gx gy fw fh gw gh g1 0 (4 * M) (4 * M) g2 0 (4 * M2) (4 * M2) zs zs2 _ fa.chk fa.reg fb.chk fb.reg (by rw [hd.out.2.2.1]) hd.out.1 fa.2.1 (by rw [hd.out.2.2.2.2.2]) hd.out.2.2.2.1 fb.2.1 i0 j0 i1 j1 cw ch Hm.out.1 Hm.out.2).mono ?_
              rintro e wv ⟨gq, rfl, hgq, rowq, hb⟩
              clear q0 f0 l0 q1 f1 l1 q2 f2 l2 q3 f3 l3
              replace fa := fa.keep hb
              replace fb := fb.keep hb
              replace xR := xR.keep hb
              replace xP := xP.keep hb
              replace B := bcall B hb
              clear hb
              have rq := rowq.rd
              clear rowq
              have hx23 : W.heap.size + 1 + 1 + 1 < wv.heap.size := xP.lt
              obtain ⟨q0, f0, l0⟩ := fa.1.all
              obtain ⟨q1, f1, l1⟩ := fb.1.all
              obtain ⟨q2, f2, l2⟩ := xR.all
              obtain ⟨q3, f3, l3⟩ := xP.all
              go_wp2_with fail
              refine nm_call ?_
              intro wn hwn
              have x23 : Bx wn wv.heap.size 26 #[.int .i64 fx, .int .i64 fy, .int .i64 (fw : Int), .int .i64 (fh : Int), .slice (some ⟨gq, 0, none⟩) (4 * M) (4 * M)] := by rw [hwn]; exact Bx.new _ _ _
              have hb : Below wv.heap.size wv wn := by rw [hwn]; exact bnew (Below.refl _ _)
              clear q0 f0 l0 q1 f1 l1 q2 f2 l2 q3 f3 l3
              replace fa := fa.keep hb
              replace fb := fb.keep hb
              replace xR := xR.keep hb
              replace xP := xP.keep hb
              replace rq := rq.keep hb
              replace B := bcall B hb
              clear hwn hb
              generalize wv.heap.size = p23 at *
              refine (ref_Common_at _ _ _ _ _ _ _ _ _ _ _ _ _ Hm.out.2 _ (by omega) (by omega) (by omega) (by omega) (by omega) (by omega) (by omega) (by omega) (by omega) (by omega) (by omega) (by omega) (by omega) (by omega) (by omega) (by omega)).mono ?_
              rintro e wv ⟨rfl, hb⟩
              replace fa := fa.keep hb
              replace fb := fb.keep hb
              replace xR := xR.keep hb
              replace xP := xP.keep hb
              replace x23 := x23.keep hb
              replace rq := rq.keep hb
              replace B := bcall B hb
              clear hb
              have hx24 : p23 < wv.heap.size := x23.lt
              obtain ⟨q0, f0, l0⟩ := fa.1.all
              obtain ⟨q1, f1, l1⟩ := fb.1.all
              obtain ⟨q2, f2, l2⟩ := xR.all
              obtain ⟨q3, f3, l3⟩ := xP.all
              obtain ⟨q4, f4, l4⟩ := x23.all
              go_wp2_with fail
              refine name_world ?_
              intro wn hwn
              have x24 : Bx wn wv.heap.size 23 #[.int .i64 (fx + i0), .int .i64 (fy + j0), .int .i64 (cw : Int), .int .i64 (ch : Int)] := by rw [hwn]; exact Bx.new _ _ _
              have hb : Below wv.heap.size wv wn := by rw [hwn]; exact bnew (Below.refl _ _)
              clear q0 f0 l0 q1 f1 l1 q2 f2 l2 q3 f3 l3 q4 f4 l4
              replace fa := fa.keep hb
              replace fb := fb.keep hb
              replace xR := xR.keep hb
              replace xP := xP.keep hb
              replace x23 := x23.keep hb
              replace rq := rq.keep hb
              replace B := bcall B hb
              clear hwn hb
              generalize wv.heap.size = p24 at *
              by_cases heq : fx = gx ∧ fy = gy ∧ fw = gw ∧ fh = gh
              · obtain ⟨rfl, rfl, rfl, rfl⟩ := heq
                obtain rfl : M = M2 := by rw [hd.out.2.2.1, hd.out.2.2.2.2.2]
                refine wp_region_grd 18 (fun _ => false) (fun q u w' => if q = 6 then ∃ g c, u = .agg #[.int .i64 fx, .int .i64 fy, .int .i64 (fw : Int), .int .i64 (fh : Int), .slice (some ⟨g, 0, none⟩) (4 * M) c] ∧ wn.heap.size ≤ g ∧ Rd w' g 0 (madeL (pasteP zs zs2 fw fw i0 j0 i1 j1 cw ch) (4 * M)) else u = [.int .i64 0, .bool true, .bool true, .agg #[.int .i64 fx, .int .i64 fy, .int .i64 (fw : Int), .int .i64 (fh : Int), .slice (some ⟨gq, 0, none⟩) (4 * M) (4 * M)], .agg #[.int .i64 fx, .int .i64 fy, .int .i64 (fw : Int), .int .i64 (fh : Int), .slice (some ⟨g1, 0, none⟩) (4 * M) (4 * M)], .agg #[.int .i64 fx, .int .i64 fy, .int .i64 (fw : Int), .int .i64 (fh : Int), .slice (some ⟨g2, 0, none⟩) (4 * M) (4 * M)], undef, .bool true, .bool true, .bool true, .agg #[.int .i64 fx, .int .i64 fy, .int .i64 (fw : Int), .int .i64 (fh : Int), .slice (some ⟨g1, 0, none⟩) (4 * M) (4 * M)], .agg #[.int .i64 fx, .int .i64 fy, .int .i64 (fw : Int), .int .i64 (fh : Int), .slice (some ⟨g2, 0, none⟩) (4 * M) (4 * M)], .bool (allSame (4 * M) zs zs2), .agg #[.int .i64 fx, .int .i64 fy, .int .i64 (fw : Int), .int .i64 (fh : Int), .slice (some ⟨g1, 0, none⟩) (4 * M) (4 * M)], .agg #[.int .i64 fx, .int .i64 fy, .int .i64 (fw : Int), .int .i64 (fh : Int), .slice (some ⟨g2, 0, none⟩) (4 * M) (4 * M)], .bool (allSame (4 * M) zs zs2), .bool true, .bool true].getD q undef) (fun _ => false) (fun w' => Below wn.heap.size wn w') (by kernel_rfl) (by kernel_rfl) (fun _ _ _ _ _ h => h)
                  (fun _ _ h e => e.trans (h.mono e.size)) (fun t u a' b' hb h => ?_) (Below.refl _ _).drew ?_ ?_ ?_
                · split
                  · rename_i h4
                    rw [if_pos h4] at h
                    obtain ⟨g, c, e1, e2, e3⟩ := h
                    exact ⟨g, c, e1, e2, e3.keep hb⟩
                  · rename_i h4
                    rw [if_neg h4] at h
                    exact h
                · intro t op ht hlt hop
                  clear hlt
                  rcases (by omega : t = 0 ∨ t = 1 ∨ t = 2 ∨ t = 3 ∨ t = 4 ∨ t = 5 ∨ t = 6 ∨ t = 7 ∨ t = 8 ∨ t = 9 ∨ t = 10 ∨ t = 11 ∨ t = 12 ∨ t = 13 ∨ t = 14 ∨ t = 15 ∨ t = 16 ∨ t = 17) with rfl | rfl | rfl | rfl | rfl | rfl | rfl | rfl | rfl | rfl | rfl | rfl | rfl | rfl | rfl | rfl | rfl | rfl
                  all_goals simp only [List.getElem?_cons_zero, List.getElem?_cons_succ, Option.some.injEq] at hop
                  all_goals subst hop
                  all_goals intro a wx hE hag hdep
                  · refine grd_none rfl ?_
                    have e0 := slot_eq (hag 14 rfl)
                    exact rel_pure _ rfl rfl (by simp [go_sem, e0])
                  · refine grd_none rfl ?_
                    have e0 := slot_eq (hdep ⟨0, .data⟩ (by simp) rfl)
                    exact rel_pure _ rfl rfl (by simp [go_sem, e0])
                  · refine grd_none rfl ?_
                    have e0 := slot_eq (hdep ⟨1, .data⟩ (by simp) rfl)
                    exact rel_pure _ rfl rfl (by simp [go_sem, e0])
                  · refine grd_yes (j := 2) (b := true) rfl (hdep ⟨2, .guard⟩ (by simp) rfl) ?_
                    have e0 := slot_eq (hag 23 rfl)
                    have hq := (x23.keep hE).all.1
                    exact rel_pure _ rfl rfl (by simp [go_sem, e0, hq])
                  · refine grd_yes (j := 2) (b := true) rfl (hdep ⟨2, .guard⟩ (by simp) rfl) ?_
                    have e0 := slot_eq (hag 6 rfl)
                    have hq := (fa.1.keep hE).all.1
                    exact rel_pure _ rfl rfl (by simp [go_sem, e0, hq])
                  · refine grd_yes (j := 2) (b := true) rfl (hdep ⟨2, .guard⟩ (by simp) rfl) ?_
                    have e0 := slot_eq (hag 7 rfl)
                    have hq := (fb.1.keep hE).all.1
                    exact rel_pure _ rfl rfl (by simp [go_sem, e0, hq])
                  · refine grd_yes (j := 2) (b := true) rfl (hdep ⟨2, .guard⟩ (by simp) rfl) ?_
                    have e0 := slot_eq (hdep ⟨4, .data⟩ (by simp) rfl)
                    have e1 := slot_eq (hdep ⟨5, .data⟩ (by simp) rfl)
                    refine rel_call (f := 66) (args := #[.agg #[.int .i64 fx, .int .i64 fy, .int .i64 (fw : Int), .int .i64 (fh : Int), .slice (some ⟨g1, 0, none⟩) (4 * M) (4 * M)], .agg #[.int .i64 fx, .int .i64 fy, .int .i64 (fw : Int), .int .i64 (fh : Int), .slice (some ⟨g2, 0, none⟩) (4 * M) (4 * M)]]) (run_go_call Try.func66 (by kernel_rfl) (by kernel_rfl) _ _ _ _ _ _ _ _ _ _ (by simp [Act.eval, e0, e1])) rfl ?_
                    refine (ref_Paste fx fy fx fy fw fh fw fh i0 j0 i1 j1 cw ch g1 0 (4 * M) (4 * M) g2 0 (4 * M) (4 * M) zs zs2 wx (by omega) (by omega) (by omega) (by omega) (by omega) (by omega) (by omega) (by omega) (by omega) (by omega) (by omega) (by omega) (by omega) (by omega) (by omega) (by omega) Hm.out.1 (by rw [hd.out.2.2.1]) (Nat.le_refl _) hd.out.1 (fa.2.1.keep hE) (by rw [hd.out.2.2.2.2.2]) (Nat.le_refl _) hd.out.2.2.2.1 (fb.2.1.keep hE)).mono ?_
                    rintro e w' ⟨g, c, rfl, hcc, hg, hrd, hb⟩
                    rw [← hd.out.2.2.1] at hrd
                    exact ⟨_, rfl, ⟨g, c, by rw [hd.out.2.2.1], Nat.le_trans hE.size hg, hrd⟩, hb⟩
                  · refine grd_yes (j := 2) (b := true) rfl (hdep ⟨2, .guard⟩ (by simp) rfl) ?_
                    have e0 := slot_eq (hdep ⟨3, .data⟩ (by simp) rfl)
                    obtain ⟨g, c, e1, hg, hrd⟩ := hdep ⟨6, .data⟩ (by simp) rfl
                    have e1 := slot_eq e1
                    refine rel_call (f := 29) (args := #[.agg #[.int .i64 fx, .int .i64 fy, .int .i64 (fw : Int), .int .i64 (fh : Int), .slice (some ⟨gq, 0, none⟩) (4 * M) (4 * M)], .agg #[.int .i64 fx, .int .i64 fy, .int .i64 (fw : Int), .int .i64 (fh : Int), .slice (some ⟨g, 0, none⟩) (4 * M) c]]) (run_go_call Try.func29 (by kernel_rfl) (by kernel_rfl) _ _ _ _ _ _ _ _ _ _ (by simp [Act.eval, e0, e1])) rfl ?_
                    refine (ref_SameFrame _ _ _ _ _ _ _ _ _ _ _ _ wx (by omega) (madeL_len _ _) (rq.keep hE) hrd).mono ?_
                    rintro e w' ⟨rfl, hb⟩
                    exact ⟨_, rfl, rfl, hb⟩
                  · refine grd_none rfl ?_
                    have e0 := slot_eq (hdep ⟨2, .data⟩ (by simp) rfl)
                    have e1 := slot_eq (hdep ⟨7, .data⟩ (by simp) rfl)
                    exact rel_pure _ rfl rfl (by simp [go_sem, e0, e1])
                  · refine grd_none rfl ?_
                    have e0 := slot_eq (hdep ⟨8, .data⟩ (by simp) rfl)
                    exact rel_pure _ rfl rfl (by simp [go_sem, e0])
                  · refine grd_yes (j := 9) (b := true) rfl (hdep ⟨9, .guard⟩ (by simp) rfl) ?_
                    have e0 := slot_eq (hag 6 rfl)
                    have hq := (fa.1.keep hE).all.1
                    exact rel_pure _ rfl rfl (by simp [go_sem, e0, hq])
                  · refine grd_yes (j := 9) (b := true) rfl (hdep ⟨9, .guard⟩ (by simp) rfl) ?_
                    have e0 := slot_eq (hag 7 rfl)
                    have hq := (fb.1.keep hE).all.1
                    exact rel_pure _ rfl rfl (by simp [go_sem, e0, hq])
                  · refine grd_yes (j := 9) (b := true) rfl (hdep ⟨9, .guard⟩ (by simp) rfl) ?_
                    have e0 := slot_eq (hdep ⟨10, .data⟩ (by simp) rfl)
                    have e1 := slot_eq (hdep ⟨11, .data⟩ (by simp) rfl)
                    refine rel_call (f := 70) (args := #[.agg #[.int .i64 fx, .int .i64 fy, .int .i64 (fw : Int), .int .i64 (fh : Int), .slice (some ⟨g1, 0, none⟩) (4 * M) (4 * M)], .agg #[.int .i64 fx, .int .i64 fy, .int .i64 (fw : Int), .int .i64 (fh : Int), .slice (some ⟨g2, 0, none⟩) (4 * M) (4 * M)]]) (run_go_call Try.func70 (by kernel_rfl) (by kernel_rfl) _ _ _ _ _ _ _ _ _ _ (by simp [Act.eval, e0, e1])) rfl ?_
                    refine (frame_Same_in _ _ _ _ _ _ _ _ _ _ _ zs zs2 wx (by omega) hd.out.1 hd.out.2.2.2.1 (fa.2.1.keep hE) (fb.2.1.keep hE)).mono ?_
                    rintro e w' ⟨rfl, hb⟩
                    exact ⟨_, rfl, rfl, hb⟩
                  · refine grd_yes (j := 9) (b := true) rfl (hdep ⟨9, .guard⟩ (by simp) rfl) ?_
                    have e0 := slot_eq (hag 6 rfl)
                    have hq := (fa.1.keep hE).all.1
                    exact rel_pure _ rfl rfl (by simp [go_sem, e0, hq])
                  · refine grd_yes (j := 9) (b := true) rfl (hdep ⟨9, .guard⟩ (by simp) rfl) ?_
                    have e0 := slot_eq (hag 7 rfl)
                    have hq := (fb.1.keep hE).all.1
                    exact rel_pure _ rfl rfl (by simp [go_sem, e0, hq])
                  · refine grd_yes (j := 9) (b := true) rfl (hdep ⟨9, .guard⟩ (by simp) rfl) ?_
                    have e0 := slot_eq (hdep ⟨13, .data⟩ (by simp) rfl)
                    have e1 := slot_eq (hdep ⟨14, .data⟩ (by simp) rfl)
                    refine rel_call (f := 71) (args := #[.agg #[.int .i64 fx, .int .i64 fy, .int .i64 (fw : Int), .int .i64 (fh : Int), .slice (some ⟨g1, 0, none⟩) (4 * M) (4 * M)], .agg #[.int .i64 fx, .int .i64 fy, .int .i64 (fw : Int), .int .i64 (fh : Int), .slice (some ⟨g2, 0, none⟩) (4 * M) (4 * M)]]) (run_go_call Try.func71 (by kernel_rfl) (by kernel_rfl) _ _ _ _ _ _ _ _ _ _ (by simp [Act.eval, e0, e1])) rfl ?_
                    refine (ref_Same_in _ _ _ _ _ _ _ _ _ _ _ zs zs2 wx (by omega) hd.out.1 hd.out.2.2.2.1 (fa.2.1.keep hE) (fb.2.1.keep hE)).mono ?_
                    rintro e w' ⟨rfl, hb⟩
                    exact ⟨_, rfl, rfl, hb⟩
                  · refine grd_yes (j := 9) (b := true) rfl (hdep ⟨9, .guard⟩ (by simp) rfl) ?_
                    have e0 := slot_eq (hdep ⟨12, .data⟩ (by simp) rfl)
                    have e1 := slot_eq (hdep ⟨15, .data⟩ (by simp) rfl)
                    exact rel_pure _ rfl rfl (by simp [go_sem, e0, e1])
                  · refine grd_none rfl ?_
                    have e0 := slot_eq (hdep ⟨9, .data⟩ (by simp) rfl)
                    have e1 := slot_eq (hdep ⟨16, .data⟩ (by simp) rfl)
                    exact rel_pure _ rfl rfl (by simp [go_sem, e0, e1])
                · intro t op ht hlt; cases hlt
                · intro vs wv2 hE hvs _
                  have k17 : vs 17 = .bool true := hvs 17 (by omega)
                  simp only [List.drop_succ_cons, List.drop_zero, putAll, dstAt, List.getElem?_toArray, List.getElem?_cons_zero, List.getElem?_cons_succ, Option.bind_some, Act.put, List.setIfInBounds_toArray, List.set_cons_zero, List.set_cons_succ, k17]
                  clear hvs k17
                  replace fa := fa.keep hE
                  replace fb := fb.keep hE
                  replace xR := xR.keep hE
                  replace xP := xP.keep hE
                  replace B := B.trans (hE.mono B.size)
                  clear hE x23 x24 rq hgq
                  go_wp2_with fail
                  go_ret
                  exact ⟨rfl, B⟩
              · have hne : Hid (¬ (fx = gx ∧ fy = gy ∧ (fw : Int) = gw ∧ (fh : Int) = gh)) := Lib.hid (fun hh => heq ⟨hh.1, hh.2.1, by omega, by omega⟩)
                clear heq
                refine wp_region_grd 18 (fun _ => false) (fun q u w' => if q = 6 then ∃ g c, u = .agg #[.int .i64 fx, .int .i64 fy, .int .i64 (fw : Int), .int .i64 (fh : Int), .slice (some ⟨g, 0, none⟩) (4 * M) c] ∧ wn.heap.size ≤ g ∧ Rd w' g 0 (madeL (pasteP zs zs2 fw gw i0 j0 i1 j1 cw ch) (4 * M)) else u = [.int .i64 0, .bool true, .bool true, .agg #[.int .i64 fx, .int .i64 fy, .int .i64 (fw : Int), .int .i64 (fh : Int), .slice (some ⟨gq, 0, none⟩) (4 * M) (4 * M)], .agg #[.int .i64 fx, .int .i64 fy, .int .i64 (fw : Int), .int .i64 (fh : Int), .slice (some ⟨g1, 0, none⟩) (4 * M) (4 * M)], .agg #[.int .i64 gx, .int .i64 gy, .int .i64 (gw : Int), .int .i64 (gh : Int), .slice (some ⟨g2, 0, none⟩) (4 * M2) (4 * M2)], undef, .bool true, .bool true, .bool true, .agg #[.int .i64 fx, .int .i64 fy, .int .i64 (fw : Int), .int .i64 (fh : Int), .slice (some ⟨g1, 0, none⟩) (4 * M) (4 * M)], .agg #[.int .i64 gx, .int .i64 gy, .int .i64 (gw : Int), .int .i64 (gh : Int), .slice (some ⟨g2, 0, none⟩) (4 * M2) (4 * M2)], .bool (false), .agg #[.int .i64 fx, .int .i64 fy, .int .i64 (fw : Int), .int .i64 (fh : Int), .slice (some ⟨g1, 0, none⟩) (4 * M) (4 * M)], .agg #[.int .i64 gx, .int .i64 gy, .int .i64 (gw : Int), .int .i64 (gh : Int), .slice (some ⟨g2, 0, none⟩) (4 * M2) (4 * M2)], .bool (false), .bool true, .bool true].getD q undef) (fun _ => false) (fun w' => Below wn.heap.size wn w') (by kernel_rfl) (by kernel_rfl) (fun _ _ _ _ _ h => h)
                  (fun _ _ h e => e.trans (h.mono e.size)) (fun t u a' b' hb h => ?_) (Below.refl _ _).drew ?_ ?_ ?_
                · split
                  · rename_i h4
                    rw [if_pos h4] at h
                    obtain ⟨g, c, e1, e2, e3⟩ := h
                    exact ⟨g, c, e1, e2, e3.keep hb⟩
                  · rename_i h4
                    rw [if_neg h4] at h
                    exact h
                · intro t op ht hlt hop
                  clear hlt
                  rcases (by omega : t = 0 ∨ t = 1 ∨ t = 2 ∨ t = 3 ∨ t = 4 ∨ t = 5 ∨ t = 6 ∨ t = 7 ∨ t = 8 ∨ t = 9 ∨ t = 10 ∨ t = 11 ∨ t = 12 ∨ t = 13 ∨ t = 14 ∨ t = 15 ∨ t = 16 ∨ t = 17) with rfl | rfl | rfl | rfl | rfl | rfl | rfl | rfl | rfl | rfl | rfl | rfl | rfl | rfl | rfl | rfl | rfl | rfl
                  all_goals simp only [List.getElem?_cons_zero, List.getElem?_cons_succ, Option.some.injEq] at hop
                  all_goals subst hop
                  all_goals intro a wx hE hag hdep
                  · refine grd_none rfl ?_
                    have e0 := slot_eq (hag 14 rfl)
                    exact rel_pure _ rfl rfl (by simp [go_sem, e0])
                  · refine grd_none rfl ?_
                    have e0 := slot_eq (hdep ⟨0, .data⟩ (by simp) rfl)
                    exact rel_pure _ rfl rfl (by simp [go_sem, e0])
                  · refine grd_none rfl ?_
                    have e0 := slot_eq (hdep ⟨1, .data⟩ (by simp) rfl)
                    exact rel_pure _ rfl rfl (by simp [go_sem, e0])
                  · refine grd_yes (j := 2) (b := true) rfl (hdep ⟨2, .guard⟩ (by simp) rfl) ?_
                    have e0 := slot_eq (hag 23 rfl)
                    have hq := (x23.keep hE).all.1
                    exact rel_pure _ rfl rfl (by simp [go_sem, e0, hq])
                  · refine grd_yes (j := 2) (b := true) rfl (hdep ⟨2, .guard⟩ (by simp) rfl) ?_
                    have e0 := slot_eq (hag 6 rfl)
                    have hq := (fa.1.keep hE).all.1
                    exact rel_pure _ rfl rfl (by simp [go_sem, e0, hq])
                  · refine grd_yes (j := 2) (b := true) rfl (hdep ⟨2, .guard⟩ (by simp) rfl) ?_
                    have e0 := slot_eq (hag 7 rfl)
                    have hq := (fb.1.keep hE).all.1
                    exact rel_pure _ rfl rfl (by simp [go_sem, e0, hq])
                  · refine grd_yes (j := 2) (b := true) rfl (hdep ⟨2, .guard⟩ (by simp) rfl) ?_
                    have e0 := slot_eq (hdep ⟨4, .data⟩ (by simp) rfl)
                    have e1 := slot_eq (hdep ⟨5, .data⟩ (by simp) rfl)
                    refine rel_call (f := 66) (args := #[.agg #[.int .i64 fx, .int .i64 fy, .int .i64 (fw : Int), .int .i64 (fh : Int), .slice (some ⟨g1, 0, none⟩) (4 * M) (4 * M)], .agg #[.int .i64 gx, .int .i64 gy, .int .i64 (gw : Int), .int .i64 (gh : Int), .slice (some ⟨g2, 0, none⟩) (4 * M2) (4 * M2)]]) (run_go_call Try.func66 (by kernel_rfl) (by kernel_rfl) _ _ _ _ _ _ _ _ _ _ (by simp [Act.eval, e0, e1])) rfl ?_
                    refine (ref_Paste fx fy gx gy fw fh gw gh i0 j0 i1 j1 cw ch g1 0 (4 * M) (4 * M) g2 0 (4 * M2) (4 * M2) zs zs2 wx (by omega) (by omega) (by omega) (by omega) (by omega) (by omega) (by omega) (by omega) (by omega) (by omega) (by omega) (by omega) (by omega) (by omega) (by omega) (by omega) Hm.out.1 (by rw [hd.out.2.2.1]) (Nat.le_refl _) hd.out.1 (fa.2.1.keep hE) (by rw [hd.out.2.2.2.2.2]) (Nat.le_refl _) hd.out.2.2.2.1 (fb.2.1.keep hE)).mono ?_
                    rintro e w' ⟨g, c, rfl, hcc, hg, hrd, hb⟩
                    rw [← hd.out.2.2.1] at hrd
                    exact ⟨_, rfl, ⟨g, c, by rw [hd.out.2.2.1], Nat.le_trans hE.size hg, hrd⟩, hb⟩
                  · refine grd_yes (j := 2) (b := true) rfl (hdep ⟨2, .guard⟩ (by simp) rfl) ?_
                    have e0 := slot_eq (hdep ⟨3, .data⟩ (by simp) rfl)
                    obtain ⟨g, c, e1, hg, hrd⟩ := hdep ⟨6, .data⟩ (by simp) rfl
                    have e1 := slot_eq e1
                    refine rel_call (f := 29) (args := #[.agg #[.int .i64 fx, .int .i64 fy, .int .i64 (fw : Int), .int .i64 (fh : Int), .slice (some ⟨gq, 0, none⟩) (4 * M) (4 * M)], .agg #[.int .i64 fx, .int .i64 fy, .int .i64 (fw : Int), .int .i64 (fh : Int), .slice (some ⟨g, 0, none⟩) (4 * M) c]]) (run_go_call Try.func29 (by kernel_rfl) (by kernel_rfl) _ _ _ _ _ _ _ _ _ _ (by simp [Act.eval, e0, e1])) rfl ?_
                    refine (ref_SameFrame _ _ _ _ _ _ _ _ _ _ _ _ wx (by omega) (madeL_len _ _) (rq.keep hE) hrd).mono ?_
                    rintro e w' ⟨rfl, hb⟩
                    exact ⟨_, rfl, rfl, hb⟩
                  · refine grd_none rfl ?_
                    have e0 := slot_eq (hdep ⟨2, .data⟩ (by simp) rfl)
                    have e1 := slot_eq (hdep ⟨7, .data⟩ (by simp) rfl)
                    exact rel_pure _ rfl rfl (by simp [go_sem, e0, e1])
                  · refine grd_none rfl ?_
                    have e0 := slot_eq (hdep ⟨8, .data⟩ (by simp) rfl)
                    exact rel_pure _ rfl rfl (by simp [go_sem, e0])
                  · refine grd_yes (j := 9) (b := true) rfl (hdep ⟨9, .guard⟩ (by simp) rfl) ?_
                    have e0 := slot_eq (hag 6 rfl)
                    have hq := (fa.1.keep hE).all.1
                    exact rel_pure _ rfl rfl (by simp [go_sem, e0, hq])
                  · refine grd_yes (j := 9) (b := true) rfl (hdep ⟨9, .guard⟩ (by simp) rfl) ?_
                    have e0 := slot_eq (hag 7 rfl)
                    have hq := (fb.1.keep hE).all.1
                    exact rel_pure _ rfl rfl (by simp [go_sem, e0, hq])
                  · refine grd_yes (j := 9) (b := true) rfl (hdep ⟨9, .guard⟩ (by simp) rfl) ?_
                    have e0 := slot_eq (hdep ⟨10, .data⟩ (by simp) rfl)
                    have e1 := slot_eq (hdep ⟨11, .data⟩ (by simp) rfl)
                    refine rel_call (f := 70) (args := #[.agg #[.int .i64 fx, .int .i64 fy, .int .i64 (fw : Int), .int .i64 (fh : Int), .slice (some ⟨g1, 0, none⟩) (4 * M) (4 * M)], .agg #[.int .i64 gx, .int .i64 gy, .int .i64 (gw : Int), .int .i64 (gh : Int), .slice (some ⟨g2, 0, none⟩) (4 * M2) (4 * M2)]]) (run_go_call Try.func70 (by kernel_rfl) (by kernel_rfl) _ _ _ _ _ _ _ _ _ _ (by simp [Act.eval, e0, e1])) rfl ?_
                    refine (frame_Same_off _ _ _ _ _ _ _ _ _ _ _ _ _ _ wx (fun hh => hne.out hh.1)).mono ?_
                    rintro e w' ⟨rfl, hb⟩
                    exact ⟨_, rfl, rfl, hb⟩
                  · refine grd_yes (j := 9) (b := true) rfl (hdep ⟨9, .guard⟩ (by simp) rfl) ?_
                    have e0 := slot_eq (hag 6 rfl)
                    have hq := (fa.1.keep hE).all.1
                    exact rel_pure _ rfl rfl (by simp [go_sem, e0, hq])
                  · refine grd_yes (j := 9) (b := true) rfl (hdep ⟨9, .guard⟩ (by simp) rfl) ?_
                    have e0 := slot_eq (hag 7 rfl)
                    have hq := (fb.1.keep hE).all.1
                    exact rel_pure _ rfl rfl (by simp [go_sem, e0, hq])
                  · refine grd_yes (j := 9) (b := true) rfl (hdep ⟨9, .guard⟩ (by simp) rfl) ?_
                    have e0 := slot_eq (hdep ⟨13, .data⟩ (by simp) rfl)
                    have e1 := slot_eq (hdep ⟨14, .data⟩ (by simp) rfl)
                    refine rel_call (f := 71) (args := #[.agg #[.int .i64 fx, .int .i64 fy, .int .i64 (fw : Int), .int .i64 (fh : Int), .slice (some ⟨g1, 0, none⟩) (4 * M) (4 * M)], .agg #[.int .i64 gx, .int .i64 gy, .int .i64 (gw : Int), .int .i64 (gh : Int), .slice (some ⟨g2, 0, none⟩) (4 * M2) (4 * M2)]]) (run_go_call Try.func71 (by kernel_rfl) (by kernel_rfl) _ _ _ _ _ _ _ _ _ _ (by simp [Act.eval, e0, e1])) rfl ?_
                    refine (ref_Same_off _ _ _ _ _ _ _ _ _ _ _ _ _ _ wx (fun hh => hne.out hh.1)).mono ?_
                    rintro e w' ⟨rfl, hb⟩
                    exact ⟨_, rfl, rfl, hb⟩
                  · refine grd_yes (j := 9) (b := true) rfl (hdep ⟨9, .guard⟩ (by simp) rfl) ?_
                    have e0 := slot_eq (hdep ⟨12, .data⟩ (by simp) rfl)
                    have e1 := slot_eq (hdep ⟨15, .data⟩ (by simp) rfl)
                    exact rel_pure _ rfl rfl (by simp [go_sem, e0, e1])
                  · refine grd_none rfl ?_
                    have e0 := slot_eq (hdep ⟨9, .data⟩ (by simp) rfl)
                    have e1 := slot_eq (hdep ⟨16, .data⟩ (by simp) rfl)
                    exact rel_pure _ rfl rfl (by simp [go_sem, e0, e1])
                · intro t op ht hlt; cases hlt
                · intro vs wv2 hE hvs _
                  have k17 : vs 17 = .bool true := hvs 17 (by omega)
                  simp only [List.drop_succ_cons, List.drop_zero, putAll, dstAt, List.getElem?_toArray, List.getElem?_cons_zero, List.getElem?_cons_succ, Option.bind_some, Act.put, List.setIfInBounds_toArray, List.set_cons_zero, List.set_cons_succ, k17]
                  clear hvs k17
                  replace fa := fa.keep hE
                  replace fb := fb.keep hE
                  replace xR := xR.keep hE
                  replace xP := xP.keep hE
                  replace B := B.trans (hE.mono B.size)
                  clear hE x23 x24 rq hgq
                  go_wp2_with fail
                  go_ret
                  exact ⟨rfl, B⟩
            · have Hm := Lib.hid hcm
              clear hcm
              refine (frame_Paste_place fx fy gx gy fw fh gw gh g1 0 (4 * M) (4 * M) g2 0 (4 * M2) (4 * M2) zs zs2 _ fa.chk fa.reg fb.chk fb.reg (by rw [hd.out.2.2.1]) hd.out.1 fa.2.1 (by rw [hd.out.2.2.2.2.2]) hd.out.2.2.2.1 fb.2.1 Hm.out).mono ?_
              rintro e wv ⟨rfl, hb⟩
              clear q0 f0 l0 q1 f1 l1 q2 f2 l2 q3 f3 l3
              replace fa := fa.keep hb
              replace fb := fb.keep hb
              replace xR := xR.keep hb
              replace xP := xP.keep hb
              replace B := bcall B hb
              clear hb
              obtain ⟨q0, f0, l0⟩ := fa.1.all
              obtain ⟨q1, f1, l1⟩ := fb.1.all
              obtain ⟨q2, f2, l2⟩ := xR.all
              obtain ⟨q3, f3, l3⟩ := xP.all
              go_wp2_with fail
              refine nm_call ?_
              intro wn hwn
              have x23 : Bx wn wv.heap.size 26 #[.int .i64 0, .int .i64 0, .int .i64 0, .int .i64 0, .slice none 0 0] := by rw [hwn]; exact Bx.new _ _ _
              have hb : Below wv.heap.size wv wn := by rw [hwn]; exact bnew (Below.refl _ _)
              clear q0 f0 l0 q1 f1 l1 q2 f2 l2 q3 f3 l3
              replace fa := fa.keep hb
              replace fb := fb.keep hb
              replace xR := xR.keep hb
              replace xP := xP.keep hb
              replace B := bcall B hb
              clear hwn hb
              generalize wv.heap.size = p23 at *
              refine (ref_Common_at _ _ _ _ _ _ _ _ _ _ _ _ _ Hm.out _ (by omega) (by omega) (by omega) (by omega) (by omega) (by omega) (by omega) (by omega) (by omega) (by omega) (by omega) (by omega) (by omega) (by omega) (by omega) (by omega)).mono ?_
              rintro e wv ⟨rfl, hb⟩
              replace fa := fa.keep hb
              replace fb := fb.keep hb
              replace xR := xR.keep hb
              replace xP := xP.keep hb
              replace x23 := x23.keep hb
              replace B := bcall B hb
              clear hb
              obtain ⟨q0, f0, l0⟩ := fa.1.all
              obtain ⟨q1, f1, l1⟩ := fb.1.all
              obtain ⟨q2, f2, l2⟩ := xR.all
              obtain ⟨q3, f3, l3⟩ := xP.all
              obtain ⟨q4, f4, l4⟩ := x23.all
              go_wp2_with fail
              go_ret
              exact ⟨rfl, bnew B⟩
          · obtain ⟨c1, c2, c3, c4, _⟩ := checkRegion_zero hk.out
            obtain ⟨rwN, rfl⟩ := Int.eq_ofNat_of_zero_le (show 0 ≤ rw_ by omega)
            obtain ⟨rhN, rfl⟩ := Int.eq_ofNat_of_zero_le (show 0 ≤ rh by omega)
            obtain ⟨ii, jj, hij2⟩ : ∃ ii jj : Nat, Hid (rx = fx + ii ∧ ry = fy + jj ∧ ii + rwN ≤ fw ∧ jj + rhN ≤ fh) := by
              unfold inB at hI2
              simp only [Bool.and_eq_true, decide_eq_true_eq] at hI2
              exact ⟨(rx - fx).toNat, (ry - fy).toNat, Lib.hid ⟨by omega, by omega, by omega, by omega⟩⟩
            have hi2 := Lib.hid hI2
            clear hI2
            refine (frame_Cut_ok fx fy rx ry fw fh rwN rhN ii jj g1 0 (4 * M) (4 * M) zs _ fa.chk fa.reg hk.out (by rw [hd.out.2.2.1]) hd.out.1 fa.2.1 hij2.out.1 hij2.out.2.1 hij2.out.2.2.1 hij2.out.2.2.2).mono ?_
            rintro e wv ⟨gt, rfl, hgt, rowt, hb⟩
            clear q0 f0 l0 q1 f1 l1 q2 f2 l2 q3 f3 l3
            replace fa := fa.keep hb
            replace fb := fb.keep hb
            replace xR := xR.keep hb
            replace xP := xP.keep hb
            replace B := bcall B hb
            clear hb
            have rt := rowt.rd
            clear rowt
            have hx22 : W.heap.size + 1 + 1 + 1 < wv.heap.size := xP.lt
            obtain ⟨q0, f0, l0⟩ := fa.1.all
            obtain ⟨q1, f1, l1⟩ := fb.1.all
            obtain ⟨q2, f2, l2⟩ := xR.all
            obtain ⟨q3, f3, l3⟩ := xP.all
            go_wp2_with fail
            refine nm_call ?_
            intro wn hwn
            have x22 : Bx wn wv.heap.size 26 #[.int .i64 rx, .int .i64 ry, .int .i64 (rwN : Int), .int .i64 (rhN : Int), .slice (some ⟨gt, 0, none⟩) (4 * (rwN * rhN)) (4 * (rwN * rhN))] := by rw [hwn]; exact Bx.new _ _ _
            have hb : Below wv.heap.size wv wn := by rw [hwn]; exact bnew (Below.refl _ _)
            clear q0 f0 l0 q1 f1 l1 q2 f2 l2 q3 f3 l3
            replace fa := fa.keep hb
            replace fb := fb.keep hb
            replace xR := xR.keep hb
            replace xP := xP.keep hb
            replace rt := rt.keep hb
            replace B := bcall B hb
            clear hwn hb
            generalize wv.heap.size = p22 at *
            refine (ref_Inside_is _ _ _ _ _ _ _ _ true hi2.out _ (by omega) (by omega) (by omega) (by omega) (by omega) (by omega) (by omega) (by omega) (by omega) (by omega) (by omega) (by omega)).mono ?_
            rintro e wv ⟨rfl, hb⟩
            replace fa := fa.keep hb
            replace fb := fb.keep hb
            replace xR := xR.keep hb
            replace xP := xP.keep hb
            replace x22 := x22.keep hb
            replace rt := rt.keep hb
            replace B := bcall B hb
            clear hb
            obtain ⟨q0, f0, l0⟩ := fa.1.all
            obtain ⟨q1, f1, l1⟩ := fb.1.all
            obtain ⟨q2, f2, l2⟩ := xR.all
            obtain ⟨q3, f3, l3⟩ := xP.all
            obtain ⟨q4, f4, l4⟩ := x22.all
            go_wp2_with fail
            clear q0 f0 l0 q1 f1 l1 q2 f2 l2 q3 f3 l3 q4 f4 l4
            refine wp_region_grd 9 (fun _ => false) (fun q u w' => if q = 6 then ∃ g c, u = .agg #[.int .i64 rx, .int .i64 ry, .int .i64 (rwN : Int), .int .i64 (rhN : Int), .slice (some ⟨g, 0, none⟩) (4 * (rwN * rhN)) c] ∧ wv.heap.size ≤ g ∧ Rd w' g 0 (madeL (cutP zs rwN fw ii jj) (4 * (rwN * rhN))) else u = [.int .i64 0, .bool false, .bool false, .agg #[.int .i64 rx, .int .i64 ry, .int .i64 (rwN : Int), .int .i64 (rhN : Int), .slice (some ⟨gt, 0, none⟩) (4 * (rwN * rhN)) (4 * (rwN * rhN))], .agg #[.int .i64 fx, .int .i64 fy, .int .i64 (fw : Int), .int .i64 (fh : Int), .slice (some ⟨g1, 0, none⟩) (4 * M) (4 * M)], .agg #[.int .i64 rx, .int .i64 ry, .int .i64 (rwN : Int), .int .i64 (rhN : Int)], undef, .bool true, .bool false].getD q undef) (fun _ => false) (fun w' => Below wv.heap.size wv w') (by kernel_rfl) (by kernel_rfl) (fun _ _ _ _ _ h => h)
              (fun _ _ h e => e.trans (h.mono e.size)) (fun t u a' b' hb h => ?_) (Below.refl _ _).drew ?_ ?_ ?_
            · split
              · rename_i h4
                rw [if_pos h4] at h
                obtain ⟨g, c, e1, e2, e3⟩ := h
                exact ⟨g, c, e1, e2, e3.keep hb⟩
              · rename_i h4
                rw [if_neg h4] at h
                exact h
            · intro t op ht hlt hop
              clear hlt
              rcases (by omega : t = 0 ∨ t = 1 ∨ t = 2 ∨ t = 3 ∨ t = 4 ∨ t = 5 ∨ t = 6 ∨ t = 7 ∨ t = 8) with rfl | rfl | rfl | rfl | rfl | rfl | rfl | rfl | rfl
              all_goals simp only [List.getElem?_cons_zero, List.getElem?_cons_succ, Option.some.injEq] at hop
              all_goals subst hop
              all_goals intro a wx hE hag hdep
              · refine grd_none rfl ?_
                have e0 := slot_eq (hag 14 rfl)
                exact rel_pure _ rfl rfl (by simp [go_sem, e0])
              · refine grd_none rfl ?_
                have e0 := slot_eq (hdep ⟨0, .data⟩ (by simp) rfl)
                exact rel_pure _ rfl rfl (by simp [go_sem, e0])
              · refine grd_none rfl ?_
                have e0 := slot_eq (hdep ⟨1, .data⟩ (by simp) rfl)
                exact rel_pure _ rfl rfl (by simp [go_sem, e0])
              · refine grd_yes (j := 2) (b := false) rfl (hdep ⟨2, .guard⟩ (by simp) rfl) ?_
                have e0 := slot_eq (hag 22 rfl)
                have hq := (x22.keep hE).all.1
                exact rel_pure _ rfl rfl (by simp [go_sem, e0, hq])
              · refine grd_yes (j := 2) (b := false) rfl (hdep ⟨2, .guard⟩ (by simp) rfl) ?_
                have e0 := slot_eq (hag 6 rfl)
                have hq := (fa.1.keep hE).all.1
                exact rel_pure _ rfl rfl (by simp [go_sem, e0, hq])
              · refine grd_yes (j := 2) (b := false) rfl (hdep ⟨2, .guard⟩ (by simp) rfl) ?_
                have e0 := slot_eq (hag 8 rfl)
                have hq := (xR.keep hE).all.1
                exact rel_pure _ rfl rfl (by simp [go_sem, e0, hq])
              · refine grd_yes (j := 2) (b := false) rfl (hdep ⟨2, .guard⟩ (by simp) rfl) ?_
                have e0 := slot_eq (hdep ⟨4, .data⟩ (by simp) rfl)
                have e1 := slot_eq (hdep ⟨5, .data⟩ (by simp) rfl)
                refine rel_call (f := 68) (args := #[.agg #[.int .i64 fx, .int .i64 fy, .int .i64 (fw : Int), .int .i64 (fh : Int), .slice (some ⟨g1, 0, none⟩) (4 * M) (4 * M)], .agg #[.int .i64 rx, .int .i64 ry, .int .i64 (rwN : Int), .int .i64 (rhN : Int)]]) (run_go_call Try.func68 (by kernel_rfl) (by kernel_rfl) _ _ _ _ _ _ _ _ _ _ (by simp [Act.eval, e0, e1])) rfl ?_
                refine (ref_Cut fx fy rx ry fw fh rwN rhN ii jj g1 0 (4 * M) (4 * M) zs wx (by omega) (by omega) (by omega) (by omega) (by omega) (by omega) (by omega) (by omega) (by rw [hd.out.2.2.1]) (Nat.le_refl _) hd.out.1 (fa.2.1.keep hE) hij2.out.1 hij2.out.2.1 (by omega) hij2.out.2.2.1 (by omega) hij2.out.2.2.2).mono ?_
                rintro e w' ⟨g, c, rfl, hcc, hg, hrd, hb⟩
                exact ⟨_, rfl, ⟨g, c, rfl, Nat.le_trans hE.size hg, hrd⟩, hb⟩
              · refine grd_yes (j := 2) (b := false) rfl (hdep ⟨2, .guard⟩ (by simp) rfl) ?_
                have e0 := slot_eq (hdep ⟨3, .data⟩ (by simp) rfl)
                obtain ⟨g, c, e1, hg, hrd⟩ := hdep ⟨6, .data⟩ (by simp) rfl
                have e1 := slot_eq e1
                refine rel_call (f := 29) (args := #[.agg #[.int .i64 rx, .int .i64 ry, .int .i64 (rwN : Int), .int .i64 (rhN : Int), .slice (some ⟨gt, 0, none⟩) (4 * (rwN * rhN)) (4 * (rwN * rhN))], .agg #[.int .i64 rx, .int .i64 ry, .int .i64 (rwN : Int), .int .i64 (rhN : Int), .slice (some ⟨g, 0, none⟩) (4 * (rwN * rhN)) c]]) (run_go_call Try.func29 (by kernel_rfl) (by kernel_rfl) _ _ _ _ _ _ _ _ _ _ (by simp [Act.eval, e0, e1])) rfl ?_
                refine (ref_SameFrame _ _ _ _ _ _ _ _ _ _ _ _ wx (by have := Nat.mul_le_mul (show rwN ≤ 256 by omega) (show rhN ≤ 256 by omega); omega) (madeL_len _ _) (rt.keep hE) hrd).mono ?_
                rintro e w' ⟨rfl, hb⟩
                exact ⟨_, rfl, rfl, hb⟩
              · refine grd_yes (j := 2) (b := false) rfl (hdep ⟨2, .guard⟩ (by simp) rfl) ?_
                have e0 := slot_eq (hdep ⟨7, .data⟩ (by simp) rfl)
                exact rel_pure _ rfl rfl (by simp [go_sem, e0])
            · intro t op ht hlt; cases hlt
            · intro vs wv2 hE hvs _
              have k2 : vs 2 = .bool false := hvs 2 (by omega)
              have k8 : vs 8 = .bool false := hvs 8 (by omega)
              simp only [List.drop_succ_cons, List.drop_zero, putAll, dstAt, List.getElem?_toArray, List.getElem?_cons_zero, List.getElem?_cons_succ, Option.bind_some, Act.put, List.setIfInBounds_toArray, List.set_cons_zero, List.set_cons_succ, k2, k8]
              clear hvs k2 k8
              replace fa := fa.keep hE
              replace fb := fb.keep hE
              replace xR := xR.keep hE
              replace xP := xP.keep hE
              replace B := B.trans (hE.mono B.size)
              clear hE x22 rt hgt
              obtain ⟨q0, f0, l0⟩ := fa.1.all
              obtain ⟨q1, f1, l1⟩ := fb.1.all
              obtain ⟨q2, f2, l2⟩ := xR.all
              obtain ⟨q3, f3, l3⟩ := xP.all
              go_wp2_with fail
              rcases common_meet fx fy fw fh gx gy gw gh (by omega) (by omega) (by omega) (by omega) with ⟨i0, j0, i1, j1, cw, ch, hm, hcm⟩ | ⟨hcm, _⟩
              · have Hm := Lib.hid (And.intro hm hcm)
                clear hm hcm
                refine (frame_Paste_ok fx fy gx gy fw fh gw gh g1 0 (4 * M) (4 * M) g2 0 (4 * M2) (4 * M2) zs zs2 _ fa.chk fa.reg fb.chk fb.reg (by rw [hd.out.2.2.1]) hd.out.1 fa.2.1 (by rw [hd.out.2.2.2.2.2]) hd.out.2.2.2.1 fb.2.1 i0 j0 i1 j1 cw ch Hm.out.1 Hm.out.2).mono ?_
                rintro e wv ⟨gq, rfl, hgq, rowq, hb⟩
                clear q0 f0 l0 q1 f1 l1 q2 f2 l2 q3 f3 l3
                replace fa := fa.keep hb
                replace fb := fb.keep hb
                replace xR := xR.keep hb
                replace xP := xP.keep hb
                replace B := bcall B hb
                clear hb
                have rq := rowq.rd
                clear rowq
                have hx23 : W.heap.size + 1 + 1 + 1 < wv.heap.size := xP.lt
                obtain ⟨q0, f0, l0⟩ := fa.1.all
                obtain ⟨q1, f1, l1⟩ := fb.1.all
                obtain ⟨q2, f2, l2⟩ := xR.all
                obtain ⟨q3, f3, l3⟩ := xP.all
                go_wp2_with fail
                refine nm_call ?_
                intro wn hwn
                have x23 : Bx wn wv.heap.size 26 #[.int .i64 fx, .int .i64 fy, .int .i64 (fw : Int), .int .i64 (fh : Int), .slice (some ⟨gq, 0, none⟩) (4 * M) (4 * M)] := by rw [hwn]; exact Bx.new _ _ _
                have hb : Below wv.heap.size wv wn := by rw [hwn]; exact bnew (Below.refl _ _)
                clear q0 f0 l0 q1 f1 l1 q2 f2 l2 q3 f3 l3
                replace fa := fa.keep hb
                replace fb := fb.keep hb
                replace xR := xR.keep hb
                replace xP := xP.keep hb
                replace rq := rq.keep hb
                replace B := bcall B hb
                clear hwn hb
                generalize wv.heap.size = p23 at *
                refine (ref_Common_at _ _ _ _ _ _ _ _ _ _ _ _ _ Hm.out.2 _ (by omega) (by omega) (by omega) (by omega) (by omega) (by omega) (by omega) (by omega) (by omega) (by omega) (by omega) (by omega) (by omega) (by omega) (by omega) (by omega)).mono ?_
                rintro e wv ⟨rfl, hb⟩
                replace fa := fa.keep hb
                replace fb := fb.keep hb
                replace xR := xR.keep hb
                replace xP := xP.keep hb
                replace x23 := x23.keep hb
                replace rq := rq.keep hb
                replace B := bcall B hb
                clear hb
                have hx24 : p23 < wv.heap.size := x23.lt
                obtain ⟨q0, f0, l0⟩ := fa.1.all
                obtain ⟨q1, f1, l1⟩ := fb.1.all
                obtain ⟨q2, f2, l2⟩ := xR.all
                obtain ⟨q3, f3, l3⟩ := xP.all
                obtain ⟨q4, f4, l4⟩ := x23.all
                go_wp2_with fail
                refine name_world ?_
                intro wn hwn
                have x24 : Bx wn wv.heap.size 23 #[.int .i64 (fx + i0), .int .i64 (fy + j0), .int .i64 (cw : Int), .int .i64 (ch : Int)] := by rw [hwn]; exact Bx.new _ _ _
                have hb : Below wv.heap.size wv wn := by rw [hwn]; exact bnew (Below.refl _ _)
                clear q0 f0 l0 q1 f1 l1 q2 f2 l2 q3 f3 l3 q4 f4 l4
                replace fa := fa.keep hb
                replace fb := fb.keep hb
                replace xR := xR.keep hb
                replace xP := xP.keep hb
                replace x23 := x23.keep hb
                replace rq := rq.keep hb
                replace B := bcall B hb
                clear hwn hb
                generalize wv.heap.size = p24 at *
                by_cases heq : fx = gx ∧ fy = gy ∧ fw = gw ∧ fh = gh
                · obtain ⟨rfl, rfl, rfl, rfl⟩ := heq
                  obtain rfl : M = M2 := by rw [hd.out.2.2.1, hd.out.2.2.2.2.2]
                  refine wp_region_grd 18 (fun _ => false) (fun q u w' => if q = 6 then ∃ g c, u = .agg #[.int .i64 fx, .int .i64 fy, .int .i64 (fw : Int), .int .i64 (fh : Int), .slice (some ⟨g, 0, none⟩) (4 * M) c] ∧ wn.heap.size ≤ g ∧ Rd w' g 0 (madeL (pasteP zs zs2 fw fw i0 j0 i1 j1 cw ch) (4 * M)) else u = [.int .i64 0, .bool true, .bool true, .agg #[.int .i64 fx, .int .i64 fy, .int .i64 (fw : Int), .int .i64 (fh : Int), .slice (some ⟨gq, 0, none⟩) (4 * M) (4 * M)], .agg #[.int .i64 fx, .int .i64 fy, .int .i64 (fw : Int), .int .i64 (fh : Int), .slice (some ⟨g1, 0, none⟩) (4 * M) (4 * M)], .agg #[.int .i64 fx, .int .i64 fy, .int .i64 (fw : Int), .int .i64 (fh : Int), .slice (some ⟨g2, 0, none⟩) (4 * M) (4 * M)], undef, .bool true, .bool true, .bool true, .agg #[.int .i64 fx, .int .i64 fy, .int .i64 (fw : Int), .int .i64 (fh : Int), .slice (some ⟨g1, 0, none⟩) (4 * M) (4 * M)], .agg #[.int .i64 fx, .int .i64 fy, .int .i64 (fw : Int), .int .i64 (fh : Int), .slice (some ⟨g2, 0, none⟩) (4 * M) (4 * M)], .bool (allSame (4 * M) zs zs2), .agg #[.int .i64 fx, .int .i64 fy, .int .i64 (fw : Int), .int .i64 (fh : Int), .slice (some ⟨g1, 0, none⟩) (4 * M) (4 * M)], .agg #[.int .i64 fx, .int .i64 fy, .int .i64 (fw : Int), .int .i64 (fh : Int), .slice (some ⟨g2, 0, none⟩) (4 * M) (4 * M)], .bool (allSame (4 * M) zs zs2), .bool true, .bool true].getD q undef) (fun _ => false) (fun w' => Below wn.heap.size wn w') (by kernel_rfl) (by kernel_rfl) (fun _ _ _ _ _ h => h)
                    (fun _ _ h e => e.trans (h.mono e.size)) (fun t u a' b' hb h => ?_) (Below.refl _ _).drew ?_ ?_ ?_
                  · split
                    · rename_i h4
                      rw [if_pos h4] at h
                      obtain ⟨g, c, e1, e2, e3⟩ := h
                      exact ⟨g, c, e1, e2, e3.keep hb⟩
                    · rename_i h4
                      rw [if_neg h4] at h
                      exact h
                  · intro t op ht hlt hop
                    clear hlt
                    rcases (by omega : t = 0 ∨ t = 1 ∨ t = 2 ∨ t = 3 ∨ t = 4 ∨ t = 5 ∨ t = 6 ∨ t = 7 ∨ t = 8 ∨ t = 9 ∨ t = 10 ∨ t = 11 ∨ t = 12 ∨ t = 13 ∨ t = 14 ∨ t = 15 ∨ t = 16 ∨ t = 17) with rfl | rfl | rfl | rfl | rfl | rfl | rfl | rfl | rfl | rfl | rfl | rfl | rfl | rfl | rfl | rfl | rfl | rfl
                    all_goals simp only [List.getElem?_cons_zero, List.getElem?_cons_succ, Option.some.injEq] at hop
                    all_goals subst hop
                    all_goals intro a wx hE hag hdep
                    · refine grd_none rfl ?_
                      have e0 := slot_eq (hag 14 rfl)
                      exact rel_pure _ rfl rfl (by simp [go_sem, e0])
                    · refine grd_none rfl ?_
                      have e0 := slot_eq (hdep ⟨0, .data⟩ (by simp) rfl)
                      exact rel_pure _ rfl rfl (by simp [go_sem, e0])
                    · refine grd_none rfl ?_
                      have e0 := slot_eq (hdep ⟨1, .data⟩ (by simp) rfl)
                      exact rel_pure _ rfl rfl (by simp [go_sem, e0])
                    · refine grd_yes (j := 2) (b := true) rfl (hdep ⟨2, .guard⟩ (by simp) rfl) ?_
                      have e0 := slot_eq (hag 23 rfl)
                      have hq := (x23.keep hE).all.1
                      exact rel_pure _ rfl rfl (by simp [go_sem, e0, hq])
                    · refine grd_yes (j := 2) (b := true) rfl (hdep ⟨2, .guard⟩ (by simp) rfl) ?_
                      have e0 := slot_eq (hag 6 rfl)
                      have hq := (fa.1.keep hE).all.1
                      exact rel_pure _ rfl rfl (by simp [go_sem, e0, hq])
                    · refine grd_yes (j := 2) (b := true) rfl (hdep ⟨2, .guard⟩ (by simp) rfl) ?_
                      have e0 := slot_eq (hag 7 rfl)
                      have hq := (fb.1.keep hE).all.1
                      exact rel_pure _ rfl rfl (by simp [go_sem, e0, hq])
                    · refine grd_yes (j := 2) (b := true) rfl (hdep ⟨2, .guard⟩ (by simp) rfl) ?_
                      have e0 := slot_eq (hdep ⟨4, .data⟩ (by simp) rfl)
                      have e1 := slot_eq (hdep ⟨5, .data⟩ (by simp) rfl)
                      refine rel_call (f := 66) (args := #[.agg #[.int .i64 fx, .int .i64 fy, .int .i64 (fw : Int), .int .i64 (fh : Int), .slice (some ⟨g1, 0, none⟩) (4 * M) (4 * M)], .agg #[.int .i64 fx, .int .i64 fy, .int .i64 (fw : Int), .int .i64 (fh : Int), .slice (some ⟨g2, 0, none⟩) (4 * M) (4 * M)]]) (run_go_call Try.func66 (by kernel_rfl) (by kernel_rfl) _ _ _ _ _ _ _ _ _ _ (by simp [Act.eval, e0, e1])) rfl ?_
                      refine (ref_Paste fx fy fx fy fw fh fw fh i0 j0 i1 j1 cw ch g1 0 (4 * M) (4 * M) g2 0 (4 * M) (4 * M) zs zs2 wx (by omega) (by omega) (by omega) (by omega) (by omega) (by omega) (by omega) (by omega) (by omega) (by omega) (by omega) (by omega) (by omega) (by omega) (by omega) (by omega) Hm.out.1 (by rw [hd.out.2.2.1]) (Nat.le_refl _) hd.out.1 (fa.2.1.keep hE) (by rw [hd.out.2.2.2.2.2]) (Nat.le_refl _) hd.out.2.2.2.1 (fb.2.1.keep hE)).mono ?_
                      rintro e w' ⟨g, c, rfl, hcc, hg, hrd, hb⟩
                      rw [← hd.out.2.2.1] at hrd
                      exact ⟨_, rfl, ⟨g, c, by rw [hd.out.2.2.1], Nat.le_trans hE.size hg, hrd⟩, hb⟩
                    · refine grd_yes (j := 2) (b := true) rfl (hdep ⟨2, .guard⟩ (by simp) rfl) ?_
                      have e0 := slot_eq (hdep ⟨3, .data⟩ (by simp) rfl)
                      obtain ⟨g, c, e1, hg, hrd⟩ := hdep ⟨6, .data⟩ (by simp) rfl
                      have e1 := slot_eq e1
                      refine rel_call (f := 29) (args := #[.agg #[.int .i64 fx, .int .i64 fy, .int .i64 (fw : Int), .int .i64 (fh : Int), .slice (some ⟨gq, 0, none⟩) (4 * M) (4 * M)], .agg #[.int .i64 fx, .int .i64 fy, .int .i64 (fw : Int), .int .i64 (fh : Int), .slice (some ⟨g, 0, none⟩) (4 * M) c]]) (run_go_call Try.func29 (by kernel_rfl) (by kernel_rfl) _ _ _ _ _ _ _ _ _ _ (by simp [Act.eval, e0, e1])) rfl ?_
                      refine (ref_SameFrame _ _ _ _ _ _ _ _ _ _ _ _ wx (by omega) (madeL_len _ _) (rq.keep hE) hrd).mono ?_
                      rintro e w' ⟨rfl, hb⟩
                      exact ⟨_, rfl, rfl, hb⟩
                    · refine grd_none rfl ?_
                      have e0 := slot_eq (hdep ⟨2, .data⟩ (by simp) rfl)
                      have e1 := slot_eq (hdep ⟨7, .data⟩ (by simp) rfl)
                      exact rel_pure _ rfl rfl (by simp [go_sem, e0, e1])
                    · refine grd_none rfl ?_
                      have e0 := slot_eq (hdep ⟨8, .data⟩ (by simp) rfl)
                      exact rel_pure _ rfl rfl (by simp [go_sem, e0])
                    · refine grd_yes (j := 9) (b := true) rfl (hdep ⟨9, .guard⟩ (by simp) rfl) ?_
                      have e0 := slot_eq (hag 6 rfl)
                      have hq := (fa.1.keep hE).all.1
                      exact rel_pure _ rfl rfl (by simp [go_sem, e0, hq])
                    · refine grd_yes (j := 9) (b := true) rfl (hdep ⟨9, .guard⟩ (by simp) rfl) ?_
                      have e0 := slot_eq (hag 7 rfl)
                      have hq := (fb.1.keep hE).all.1
                      exact rel_pure _ rfl rfl (by simp [go_sem, e0, hq])
                    · refine grd_yes (j := 9) (b := true) rfl (hdep ⟨9, .guard⟩ (by simp) rfl) ?_
                      have e0 := slot_eq (hdep ⟨10, .data⟩ (by simp) rfl)
                      have e1 := slot_eq (hdep ⟨11, .data⟩ (by simp) rfl)
                      refine rel_call (f := 70) (args := #[.agg #[.int .i64 fx, .int .i64 fy, .int .i64 (fw : Int), .int .i64 (fh : Int), .slice (some ⟨g1, 0, none⟩) (4 * M) (4 * M)], .agg #[.int .i64 fx, .int .i64 fy, .int .i64 (fw : Int), .int .i64 (fh : Int), .slice (some ⟨g2, 0, none⟩) (4 * M) (4 * M)]]) (run_go_call Try.func70 (by kernel_rfl) (by kernel_rfl) _ _ _ _ _ _ _ _ _ _ (by simp [Act.eval, e0, e1])) rfl ?_
                      refine (frame_Same_in _ _ _ _ _ _ _ _ _ _ _ zs zs2 wx (by omega) hd.out.1 hd.out.2.2.2.1 (fa.2.1.keep hE) (fb.2.1.keep hE)).mono ?_
                      rintro e w' ⟨rfl, hb⟩
                      exact ⟨_, rfl, rfl, hb⟩
                    · refine grd_yes (j := 9) (b := true) rfl (hdep ⟨9, .guard⟩ (by simp) rfl) ?_
                      have e0 := slot_eq (hag 6 rfl)
                      have hq := (fa.1.keep hE).all.1
                      exact rel_pure _ rfl rfl (by simp [go_sem, e0, hq])
                    · refine grd_yes (j := 9) (b := true) rfl (hdep ⟨9, .guard⟩ (by simp) rfl) ?_
                      have e0 := slot_eq (hag 7 rfl)
                      have hq := (fb.1.keep hE).all.1
                      exact rel_pure _ rfl rfl (by simp [go_sem, e0, hq])
                    · refine grd_yes (j := 9) (b := true) rfl (hdep ⟨9, .guard⟩ (by simp) rfl) ?_
                      have e0 := slot_eq (hdep ⟨13, .data⟩ (by simp) rfl)
                      have e1 := slot_eq (hdep ⟨14, .data⟩ (by simp) rfl)
                      refine rel_call (f := 71) (args := #[.agg #[.int .i64 fx, .int .i64 fy, .int .i64 (fw : Int), .int .i64 (fh : Int), .slice (some ⟨g1, 0, none⟩) (4 * M) (4 * M)], .agg #[.int .i64 fx, .int .i64 fy, .int .i64 (fw : Int), .int .i64 (fh : Int), .slice (some ⟨g2, 0, none⟩) (4 * M) (4 * M)]]) (run_go_call Try.func71 (by kernel_rfl) (by kernel_rfl) _ _ _ _ _ _ _ _ _ _ (by simp [Act.eval, e0, e1])) rfl ?_
                      refine (ref_Same_in _ _ _ _ _ _ _ _ _ _ _ zs zs2 wx (by omega) hd.out.1 hd.out.2.2.2.1 (fa.2.1.keep hE) (fb.2.1.keep hE)).mono ?_
                      rintro e w' ⟨rfl, hb⟩
                      exact ⟨_, rfl, rfl, hb⟩
                    · refine grd_yes (j := 9) (b := true) rfl (hdep ⟨9, .guard⟩ (by simp) rfl) ?_
                      have e0 := slot_eq (hdep ⟨12, .data⟩ (by simp) rfl)
                      have e1 := slot_eq (hdep ⟨15, .data⟩ (by simp) rfl)
                      exact rel_pure _ rfl rfl (by simp [go_sem, e0, e1])
                    · refine grd_none rfl ?_
                      have e0 := slot_eq (hdep ⟨9, .data⟩ (by simp) rfl)
                      have e1 := slot_eq (hdep ⟨16, .data⟩ (by simp) rfl)
                      exact rel_pure _ rfl rfl (by simp [go_sem, e0, e1])
                  · intro t op ht hlt; cases hlt
                  · intro vs wv2 hE hvs _
                    have k17 : vs 17 = .bool true := hvs 17 (by omega)
                    simp only [List.drop_succ_cons, List.drop_zero, putAll, dstAt, List.getElem?_toArray, List.getElem?_cons_zero, List.getElem?_cons_succ, Option.bind_some, Act.put, List.setIfInBounds_toArray, List.set_cons_zero, List.set_cons_succ, k17]
                    clear hvs k17
                    replace fa := fa.keep hE
                    replace fb := fb.keep hE
                    replace xR := xR.keep hE
                    replace xP := xP.keep hE
                    replace B := B.trans (hE.mono B.size)
                    clear hE x23 x24 rq hgq
                    go_wp2_with fail
                    go_ret
                    exact ⟨rfl, B⟩
                · have hne : Hid (¬ (fx = gx ∧ fy = gy ∧ (fw : Int) = gw ∧ (fh : Int) = gh)) := Lib.hid (fun hh => heq ⟨hh.1, hh.2.1, by omega, by omega⟩)
                  clear heq
                  refine wp_region_grd 18 (fun _ => false) (fun q u w' => if q = 6 then ∃ g c, u = .agg #[.int .i64 fx, .int .i64 fy, .int .i64 (fw : Int), .int .i64 (fh : Int), .slice (some ⟨g, 0, none⟩) (4 * M) c] ∧ wn.heap.size ≤ g ∧ Rd w' g 0 (madeL (pasteP zs zs2 fw gw i0 j0 i1 j1 cw ch) (4 * M)) else u = [.int .i64 0, .bool true, .bool true, .agg #[.int .i64 fx, .int .i64 fy, .int .i64 (fw : Int), .int .i64 (fh : Int), .slice (some ⟨gq, 0, none⟩) (4 * M) (4 * M)], .agg #[.int .i64 fx, .int .i64 fy, .int .i64 (fw : Int), .int .i64 (fh : Int), .slice (some ⟨g1, 0, none⟩) (4 * M) (4 * M)], .agg #[.int .i64 gx, .int .i64 gy, .int .i64 (gw : Int), .int .i64 (gh : Int), .slice (some ⟨g2, 0, none⟩) (4 * M2) (4 * M2)], undef, .bool true, .bool true, .bool true, .agg #[.int .i64 fx, .int .i64 fy, .int .i64 (fw : Int), .int .i64 (fh : Int), .slice (some ⟨g1, 0, none⟩) (4 * M) (4 * M)], .agg #[.int .i64 gx, .int .i64 gy, .int .i64 (gw : Int), .int .i64 (gh : Int), .slice (some ⟨g2, 0, none⟩) (4 * M2) (4 * M2)], .bool (false), .agg #[.int .i64 fx, .int .i64 fy, .int .i64 (fw : Int), .int .i64 (fh : Int), .slice (some ⟨g1, 0, none⟩) (4 * M) (4 * M)], .agg #[.int .i64 gx, .int .i64 gy, .int .i64 (gw : Int), .int .i64 (gh : Int), .slice (some ⟨g2, 0, none⟩) (4 * M2) (4 * M2)], .bool (false), .bool true, .bool true].getD q undef) (fun _ => false) (fun w' => Below wn.heap.size wn w') (by kernel_rfl) (by kernel_rfl) (fun _ _ _ _ _ h => h)
                    (fun _ _ h e => e.trans (h.mono e.size)) (fun t u a' b' hb h => ?_) (Below.refl _ _).drew ?_ ?_ ?_
                  · split
                    · rename_i h4
                      rw [if_pos h4] at h
                      obtain ⟨g, c, e1, e2, e3⟩ := h
                      exact ⟨g, c, e1, e2, e3.keep hb⟩
                    · rename_i h4
                      rw [if_neg h4] at h
                      exact h
                  · intro t op ht hlt hop
                    clear hlt
                    rcases (by omega : t = 0 ∨ t = 1 ∨ t = 2 ∨ t = 3 ∨ t = 4 ∨ t = 5 ∨ t = 6 ∨ t = 7 ∨ t = 8 ∨ t = 9 ∨ t = 10 ∨ t = 11 ∨ t = 12 ∨ t = 13 ∨ t = 14 ∨ t = 15 ∨ t = 16 ∨ t = 17) with rfl | rfl | rfl | rfl | rfl | rfl | rfl | rfl | rfl | rfl | rfl | rfl | rfl | rfl | rfl | rfl | rfl | rfl
                    all_goals simp only [List.getElem?_cons_zero, List.getElem?_cons_succ, Option.some.injEq] at hop
                    all_goals subst hop
                    all_goals intro a wx hE hag hdep
                    · refine grd_none rfl ?_
                      have e0 := slot_eq (hag 14 rfl)
                      exact rel_pure _ rfl rfl (by simp [go_sem, e0])
                    · refine grd_none rfl ?_
                      have e0 := slot_eq (hdep ⟨0, .data⟩ (by simp) rfl)
                      exact rel_pure _ rfl rfl (by simp [go_sem, e0])
                    · refine grd_none rfl ?_
                      have e0 := slot_eq (hdep ⟨1, .data⟩ (by simp) rfl)
                      exact rel_pure _ rfl rfl (by simp [go_sem, e0])
                    · refine grd_yes (j := 2) (b := true) rfl (hdep ⟨2, .guard⟩ (by simp) rfl) ?_
                      have e0 := slot_eq (hag 23 rfl)
                      have hq := (x23.keep hE).all.1
                      exact rel_pure _ rfl rfl (by simp [go_sem, e0, hq])
                    · refine grd_yes (j := 2) (b := true) rfl (hdep ⟨2, .guard⟩ (by simp) rfl) ?_
                      have e0 := slot_eq (hag 6 rfl)
                      have hq := (fa.1.keep hE).all.1
                      exact rel_pure _ rfl rfl (by simp [go_sem, e0, hq])
                    · refine grd_yes (j := 2) (b := true) rfl (hdep ⟨2, .guard⟩ (by simp) rfl) ?_
                      have e0 := slot_eq (hag 7 rfl)
                      have hq := (fb.1.keep hE).all.1
                      exact rel_pure _ rfl rfl (by simp [go_sem, e0, hq])
                    · refine grd_yes (j := 2) (b := true) rfl (hdep ⟨2, .guard⟩ (by simp) rfl) ?_
                      have e0 := slot_eq (hdep ⟨4, .data⟩ (by simp) rfl)
                      have e1 := slot_eq (hdep ⟨5, .data⟩ (by simp) rfl)
                      refine rel_call (f := 66) (args := #[.agg #[.int .i64 fx, .int .i64 fy, .int .i64 (fw : Int), .int .i64 (fh : Int), .slice (some ⟨g1, 0, none⟩) (4 * M) (4 * M)], .agg #[.int .i64 gx, .int .i64 gy, .int .i64 (gw : Int), .int .i64 (gh : Int), .slice (some ⟨g2, 0, none⟩) (4 * M2) (4 * M2)]]) (run_go_call Try.func66 (by kernel_rfl) (by kernel_rfl) _ _ _ _ _ _ _ _ _ _ (by simp [Act.eval, e0, e1])) rfl ?_
                      refine (ref_Paste fx fy gx gy fw fh gw gh i0 j0 i1 j1 cw ch g1 0 (4 * M) (4 * M) g2 0 (4 * M2) (4 * M2) zs zs2 wx (by omega) (by omega) (by omega) (by omega) (by omega) (by omega) (by omega) (by omega) (by omega) (by omega) (by omega) (by omega) (by omega) (by omega) (by omega) (by omega) Hm.out.1 (by rw [hd.out.2.2.1]) (Nat.le_refl _) hd.out.1 (fa.2.1.keep hE) (by rw [hd.out.2.2.2.2.2]) (Nat.le_refl _) hd.out.2.2.2.1 (fb.2.1.keep hE)).mono ?_
                      rintro e w' ⟨g, c, rfl, hcc, hg, hrd, hb⟩
                      rw [← hd.out.2.2.1] at hrd
                      exact ⟨_, rfl, ⟨g, c, by rw [hd.out.2.2.1], Nat.le_trans hE.size hg, hrd⟩, hb⟩
                    · refine grd_yes (j := 2) (b := true) rfl (hdep ⟨2, .guard⟩ (by simp) rfl) ?_
                      have e0 := slot_eq (hdep ⟨3, .data⟩ (by simp) rfl)
                      obtain ⟨g, c, e1, hg, hrd⟩ := hdep ⟨6, .data⟩ (by simp) rfl
                      have e1 := slot_eq e1
                      refine rel_call (f := 29) (args := #[.agg #[.int .i64 fx, .int .i64 fy, .int .i64 (fw : Int), .int .i64 (fh : Int), .slice (some ⟨gq, 0, none⟩) (4 * M) (4 * M)], .agg #[.int .i64 fx, .int .i64 fy, .int .i64 (fw : Int), .int .i64 (fh : Int), .slice (some ⟨g, 0, none⟩) (4 * M) c]]) (run_go_call Try.func29 (by kernel_rfl) (by kernel_rfl) _ _ _ _ _ _ _ _ _ _ (by simp [Act.eval, e0, e1])) rfl ?_
                      refine (ref_SameFrame _ _ _ _ _ _ _ _ _ _ _ _ wx (by omega) (madeL_len _ _) (rq.keep hE) hrd).mono ?_
                      rintro e w' ⟨rfl, hb⟩
                      exact ⟨_, rfl, rfl, hb⟩
                    · refine grd_none rfl ?_
                      have e0 := slot_eq (hdep ⟨2, .data⟩ (by simp) rfl)
                      have e1 := slot_eq (hdep ⟨7, .data⟩ (by simp) rfl)
                      exact rel_pure _ rfl rfl (by simp [go_sem, e0, e1])
                    · refine grd_none rfl ?_
                      have e0 := slot_eq (hdep ⟨8, .data⟩ (by simp) rfl)
                      exact rel_pure _ rfl rfl (by simp [go_sem, e0])
                    · refine grd_yes (j := 9) (b := true) rfl (hdep ⟨9, .guard⟩ (by simp) rfl) ?_
                      have e0 := slot_eq (hag 6 rfl)
                      have hq := (fa.1.keep hE).all.1
                      exact rel_pure _ rfl rfl (by simp [go_sem, e0, hq])
                    · refine grd_yes (j := 9) (b := true) rfl (hdep ⟨9, .guard⟩ (by simp) rfl) ?_
                      have e0 := slot_eq (hag 7 rfl)
                      have hq := (fb.1.keep hE).all.1
                      exact rel_pure _ rfl rfl (by simp [go_sem, e0, hq])
                    · refine grd_yes (j := 9) (b := true) rfl (hdep ⟨9, .guard⟩ (by simp) rfl) ?_
                      have e0 := slot_eq (hdep ⟨10, .data⟩ (by simp) rfl)
                      have e1 := slot_eq (hdep ⟨11, .data⟩ (by simp) rfl)
                      refine rel_call (f := 70) (args := #[.agg #[.int .i64 fx, .int .i64 fy, .int .i64 (fw : Int), .int .i64 (fh : Int), .slice (some ⟨g1, 0, none⟩) (4 * M) (4 * M)], .agg #[.int .i64 gx, .int .i64 gy, .int .i64 (gw : Int), .int .i64 (gh : Int), .slice (some ⟨g2, 0, none⟩) (4 * M2) (4 * M2)]]) (run_go_call Try.func70 (by kernel_rfl) (by kernel_rfl) _ _ _ _ _ _ _ _ _ _ (by simp [Act.eval, e0, e1])) rfl ?_
                      refine (frame_Same_off _ _ _ _ _ _ _ _ _ _ _ _ _ _ wx (fun hh => hne.out hh.1)).mono ?_
                      rintro e w' ⟨rfl, hb⟩
                      exact ⟨_, rfl, rfl, hb⟩
                    · refine grd_yes (j := 9) (b := true) rfl (hdep ⟨9, .guard⟩ (by simp) rfl) ?_
                      have e0 := slot_eq (hag 6 rfl)
                      have hq := (fa.1.keep hE).all.1
                      exact rel_pure _ rfl rfl (by simp [go_sem, e0, hq])
                    · refine grd_yes (j := 9) (b := true) rfl (hdep ⟨9, .guard⟩ (by simp) rfl) ?_
                      have e0 := slot_eq (hag 7 rfl)
                      have hq := (fb.1.keep hE).all.1
                      exact rel_pure _ rfl rfl (by simp [go_sem, e0, hq])
                    · refine grd_yes (j := 9) (b := true) rfl (hdep ⟨9, .guard⟩ (by simp) rfl) ?_
                      have e0 := slot_eq (hdep ⟨13, .data⟩ (by simp) rfl)
                      have e1 := slot_eq (hdep ⟨14, .data⟩ (by simp) rfl)
                      refine rel_call (f := 71) (args := #[.agg #[.int .i64 fx, .int .i64 fy, .int .i64 (fw : Int), .int .i64 (fh : Int), .slice (some ⟨g1, 0, none⟩) (4 * M) (4 * M)], .agg #[.int .i64 gx, .int .i64 gy, .int .i64 (gw : Int), .int .i64 (gh : Int), .slice (some ⟨g2, 0, none⟩) (4 * M2) (4 * M2)]]) (run_go_call Try.func71 (by kernel_rfl) (by kernel_rfl) _ _ _ _ _ _ _ _ _ _ (by simp [Act.eval, e0, e1])) rfl ?_
                      refine (ref_Same_off _ _ _ _ _ _ _ _ _ _ _ _ _ _ wx (fun hh => hne.out hh.1)).mono ?_
                      rintro e w' ⟨rfl, hb⟩
                      exact ⟨_, rfl, rfl, hb⟩
                    · refine grd_yes (j := 9) (b := true) rfl (hdep ⟨9, .guard⟩ (by simp) rfl) ?_
                      have e0 := slot_eq (hdep ⟨12, .data⟩ (by simp) rfl)
                      have e1 := slot_eq (hdep ⟨15, .data⟩ (by simp) rfl)
                      exact rel_pure _ rfl rfl (by simp [go_sem, e0, e1])
                    · refine grd_none rfl ?_
                      have e0 := slot_eq (hdep ⟨9, .data⟩ (by simp) rfl)
                      have e1 := slot_eq (hdep ⟨16, .data⟩ (by simp) rfl)
                      exact rel_pure _ rfl rfl (by simp [go_sem, e0, e1])
                  · intro t op ht hlt; cases hlt
                  · intro vs wv2 hE hvs _
                    have k17 : vs 17 = .bool true := hvs 17 (by omega)
                    simp only [List.drop_succ_cons, List.drop_zero, putAll, dstAt, List.getElem?_toArray, List.getElem?_cons_zero, List.getElem?_cons_succ, Option.bind_some, Act.put, List.setIfInBounds_toArray, List.set_cons_zero, List.set_cons_succ, k17]
                    clear hvs k17
                    replace fa := fa.keep hE
                    replace fb := fb.keep hE
                    replace xR := xR.keep hE
                    replace xP := xP.keep hE
                    replace B := B.trans (hE.mono B.size)
                    clear hE x23 x24 rq hgq
                    go_wp2_with fail
                    go_ret
                    exact ⟨rfl, B⟩
              · have Hm := Lib.hid hcm
                clear hcm
                refine (frame_Paste_place fx fy gx gy fw fh gw gh g1 0 (4 * M) (4 * M) g2 0 (4 * M2) (4 * M2) zs zs2 _ fa.chk fa.reg fb.chk fb.reg (by rw [hd.out.2.2.1]) hd.out.1 fa.2.1 (by rw [hd.out.2.2.2.2.2]) hd.out.2.2.2.1 fb.2.1 Hm.out).mono ?_
                rintro e wv ⟨rfl, hb⟩
                clear q0 f0 l0 q1 f1 l1 q2 f2 l2 q3 f3 l3
                replace fa := fa.keep hb
                replace fb := fb.keep hb
                replace xR := xR.keep hb
                replace xP := xP.keep hb
                replace B := bcall B hb
                clear hb
                obtain ⟨q0, f0, l0⟩ := fa.1.all
                obtain ⟨q1, f1, l1⟩ := fb.1.all
                obtain ⟨q2, f2, l2⟩ := xR.all
                obtain ⟨q3, f3, l3⟩ := xP.all
                go_wp2_with fail
                refine nm_call ?_
                intro wn hwn
                have x23 : Bx wn wv.heap.size 26 #[.int .i64 0, .int .i64 0, .int .i64 0, .int .i64 0, .slice none 0 0] := by rw [hwn]; exact Bx.new _ _ _
                have hb : Below wv.heap.size wv wn := by rw [hwn]; exact bnew (Below.refl _ _)
                clear q0 f0 l0 q1 f1 l1 q2 f2 l2 q3 f3 l3
                replace fa := fa.keep hb
                replace fb := fb.keep hb
                replace xR := xR.keep hb
                replace xP := xP.keep hb
                replace B := bcall B hb
                clear hwn hb
                generalize wv.heap.size = p23 at *
                refine (ref_Common_at _ _ _ _ _ _ _ _ _ _ _ _ _ Hm.out _ (by omega) (by omega) (by omega) (by omega) (by omega) (by omega) (by omega) (by omega) (by omega) (by omega) (by omega) (by omega) (by omega) (by omega) (by omega) (by omega)).mono ?_
                rintro e wv ⟨rfl, hb⟩
                replace fa := fa.keep hb
                replace fb := fb.keep hb
                replace xR := xR.keep hb
                replace xP := xP.keep hb
                replace x23 := x23.keep hb
                replace B := bcall B hb
                clear hb
                obtain ⟨q0, f0, l0⟩ := fa.1.all
                obtain ⟨q1, f1, l1⟩ := fb.1.all
                obtain ⟨q2, f2, l2⟩ := xR.all
                obtain ⟨q3, f3, l3⟩ := xP.all
                obtain ⟨q4, f4, l4⟩ := x23.all
                go_wp2_with fail
                go_ret
                exact ⟨rfl, bnew B⟩
        · obtain ⟨i, j, hpi, hpj, hij⟩ : ∃ i j : Nat, pu = fx + i ∧ pv = fy + j ∧ i < fw ∧ j < fh := by
            unfold inB at hI
            simp only [Bool.and_eq_true, decide_eq_true_eq] at hI
            exact ⟨(pu - fx).toNat, (pv - fy).toNat, by omega, by omega, by omega, by omega⟩
          subst hpi hpj
          have hi := Lib.hid hI
          clear hI
          obtain ⟨q0, f0, l0⟩ := fa.1.all
          obtain ⟨q1, f1, l1⟩ := fb.1.all
          obtain ⟨q2, f2, l2⟩ := xR.all
          obtain ⟨q3, f3, l3⟩ := xP.all
          go_wp2_with fail
          refine (ref_Inside_is _ _ _ _ _ _ _ _ true hi.out _ (by omega) (by omega) (by omega) (by omega) (by omega) (by omega) (by omega) (by omega) (by omega) (by omega) (by omega) (by omega)).mono ?_
          rintro e wv ⟨rfl, hb⟩
          clear q0 f0 l0 q1 f1 l1 q2 f2 l2 q3 f3 l3
          replace fa := fa.keep hb
          replace fb := fb.keep hb
          replace xR := xR.keep hb
          replace xP := xP.keep hb
          replace B := bcall B hb
          clear hb
          obtain ⟨q0, f0, l0⟩ := fa.1.all
          obtain ⟨q1, f1, l1⟩ := fb.1.all
          obtain ⟨q2, f2, l2⟩ := xR.all
          obtain ⟨q3, f3, l3⟩ := xP.all
          go_wp2_with fail
          refine (frame_At_in fx fy fw fh i j g1 0 (4 * M) (4 * M) M zs _ fa.chk fa.reg hd.out.2.2.1 rfl (Nat.le_refl _) hij.1 hij.2 hd.out.1 fa.2.1).mono ?_
          rintro e wv ⟨rfl, hb⟩
          clear q0 f0 l0 q1 f1 l1 q2 f2 l2 q3 f3 l3
          replace fa := fa.keep hb
          replace fb := fb.keep hb
          replace xR := xR.keep hb
          replace xP := xP.keep hb
          replace B := bcall B hb
          clear hb
          have hx17 : W.heap.size + 1 + 1 + 1 < wv.heap.size := xP.lt
          obtain ⟨q0, f0, l0⟩ := fa.1.all
          obtain ⟨q1, f1, l1⟩ := fb.1.all
          obtain ⟨q2, f2, l2⟩ := xR.all
          obtain ⟨q3, f3, l3⟩ := xP.all
          go_wp2_with fail
          refine nm_call ?_
          intro wn hwn
          have x17 : Bx wn wv.heap.size 35 #[.float .f32 (canon (zs.getD (4 * (j * fw + i) + 0) 0)), .float .f32 (canon (zs.getD (4 * (j * fw + i) + 1) 0)), .float .f32 (canon (zs.getD (4 * (j * fw + i) + 2) 0)), .float .f32 (canon (zs.getD (4 * (j * fw + i) + 3) 0))] := by rw [hwn]; exact Bx.new _ _ _
          have hb : Below wv.heap.size wv wn := by rw [hwn]; exact bnew (Below.refl _ _)
          clear q0 f0 l0 q1 f1 l1 q2 f2 l2 q3 f3 l3
          replace fa := fa.keep hb
          replace fb := fb.keep hb
          replace xR := xR.keep hb
          replace xP := xP.keep hb
          replace B := bcall B hb
          clear hwn hb
          generalize wv.heap.size = p17 at *
          refine (frame_Put_in fx fy fw fh i j g1 0 (4 * M) (4 * M) M zs F _ fa.chk fa.reg hd.out.2.2.1 rfl hij.1 hij.2 hd.out.1 fa.2.1).mono ?_
          rintro e wv ⟨gp, rfl, hgp, rowp, hb⟩
          replace fa := fa.keep hb
          replace fb := fb.keep hb
          replace xR := xR.keep hb
          replace xP := xP.keep hb
          replace x17 := x17.keep hb
          replace B := bcall B hb
          clear hb
          have rput := rowp.rd
          clear rowp
          have hx18 : p17 < wv.heap.size := x17.lt
          obtain ⟨q0, f0, l0⟩ := fa.1.all
          obtain ⟨q1, f1, l1⟩ := fb.1.all
          obtain ⟨q2, f2, l2⟩ := xR.all
          obtain ⟨q3, f3, l3⟩ := xP.all
          obtain ⟨q4, f4, l4⟩ := x17.all
          go_wp2_with fail
          refine nm_call ?_
          intro wn hwn
          have x18 : Bx wn wv.heap.size 26 #[.int .i64 fx, .int .i64 fy, .int .i64 (fw : Int), .int .i64 (fh : Int), .slice (some ⟨gp, 0, none⟩) (4 * M) (4 * M)] := by rw [hwn]; exact Bx.new _ _ _
          have hb : Below wv.heap.size wv wn := by rw [hwn]; exact bnew (Below.refl _ _)
          clear q0 f0 l0 q1 f1 l1 q2 f2 l2 q3 f3 l3 q4 f4 l4
          replace fa := fa.keep hb
          replace fb := fb.keep hb
          replace xR := xR.keep hb
          replace xP := xP.keep hb
          replace x17 := x17.keep hb
          replace rput := rput.keep hb
          replace B := bcall B hb
          clear hwn hb
          generalize wv.heap.size = p18 at *
          refine (ref_PixelAt_lit fx fy fw fh (fx + (i : Int)) (fy + (j : Int)) g1 0 (4 * M) (4 * M) (j * fw + i) zs _ (pixNo_at fx fy fw fh i j hij.1 hij.2) (by omega) (by omega) (by omega) (by omega) (by omega) (by omega) (by omega) (by omega) (by have := hd.out.2.1; rw [Int.mul_assoc, ← this]; omega) (Nat.le_refl _) hd.out.1 fa.2.1).mono ?_
          rintro e wv ⟨rfl, hb⟩
          replace fa := fa.keep hb
          replace fb := fb.keep hb
          replace xR := xR.keep hb
          replace xP := xP.keep hb
          replace x17 := x17.keep hb
          replace x18 := x18.keep hb
          replace rput := rput.keep hb
          replace B := bcall B hb
          clear hb
          have hx20 : p18 < wv.heap.size := x18.lt
          obtain ⟨q0, f0, l0⟩ := fa.1.all
          obtain ⟨q1, f1, l1⟩ := fb.1.all
          obtain ⟨q2, f2, l2⟩ := xR.all
          obtain ⟨q3, f3, l3⟩ := xP.all
          obtain ⟨q4, f4, l4⟩ := x17.all
          obtain ⟨q5, f5, l5⟩ := x18.all
          go_wp2_with fail
          refine nm_call ?_
          intro wn hwn
          have x20 : Bx wn wv.heap.size 35 #[.float .f32 (zs.getD (4 * (j * fw + i)) 0), .float .f32 (zs.getD (4 * (j * fw + i) + 1) 0), .float .f32 (zs.getD (4 * (j * fw + i) + 2) 0), .float .f32 (zs.getD (4 * (j * fw + i) + 3) 0)] := by rw [hwn]; exact Bx.new _ _ _
          have hb : Below wv.heap.size wv wn := by rw [hwn]; exact bnew (Below.refl _ _)
          clear q0 f0 l0 q1 f1 l1 q2 f2 l2 q3 f3 l3 q4 f4 l4 q5 f5 l5
          replace fa := fa.keep hb
          replace fb := fb.keep hb
          replace xR := xR.keep hb
          replace xP := xP.keep hb
          replace x17 := x17.keep hb
          replace x18 := x18.keep hb
          replace rput := rput.keep hb
          replace B := bcall B hb
          clear hwn hb
          generalize wv.heap.size = p20 at *
          refine (ref_Made (fx + (i : Int)) (fy + (j : Int)) 1 1 1 _ _ _ _ rfl (by omega) (by omega) (by omega) (by omega) (by omega) (by omega) (by omega) (by omega) (by omega) (const_makes2 _ _ 1 1 _ _ F _ xP)).mono ?_
          rintro e wv ⟨go, ko, rfl, hko, hgo, rone, hb⟩
          replace fa := fa.keep hb
          replace fb := fb.keep hb
          replace xR := xR.keep hb
          replace xP := xP.keep hb
          replace x17 := x17.keep hb
          replace x18 := x18.keep hb
          replace x20 := x20.keep hb
          replace rput := rput.keep hb
          replace B := bcall B hb
          clear hb
          have hx21 : p20 < wv.heap.size := x20.lt
          obtain ⟨q0, f0, l0⟩ := fa.1.all
          obtain ⟨q1, f1, l1⟩ := fb.1.all
          obtain ⟨q2, f2, l2⟩ := xR.all
          obtain ⟨q3, f3, l3⟩ := xP.all
          obtain ⟨q4, f4, l4⟩ := x17.all
          obtain ⟨q5, f5, l5⟩ := x18.all
          obtain ⟨q6, f6, l6⟩ := x20.all
          go_wp2_with fail
          refine name_world ?_
          intro wn hwn
          have x21 : Bx wn wv.heap.size 26 #[.int .i64 (fx + (i : Int)), .int .i64 (fy + (j : Int)), .int .i64 1, .int .i64 1, .slice (some ⟨go, 0, none⟩) (4 * 1) ko] := by rw [hwn]; exact Bx.new _ _ _
          have hb : Below wv.heap.size wv wn := by rw [hwn]; exact bnew (Below.refl _ _)
          clear q0 f0 l0 q1 f1 l1 q2 f2 l2 q3 f3 l3 q4 f4 l4 q5 f5 l5 q6 f6 l6
          replace fa := fa.keep hb
          replace fb := fb.keep hb
          replace xR := xR.keep hb
          replace xP := xP.keep hb
          replace x17 := x17.keep hb
          replace x18 := x18.keep hb
          replace x20 := x20.keep hb
          replace rput := rput.keep hb
          replace rone := rone.keep hb
          replace B := bcall B hb
          clear hwn hb
          generalize wv.heap.size = p21 at *
          refine wp_region_grd 31 (fun _ => false) (fun q u w' => if q = 28 then ∃ g c, u = .agg #[.int .i64 fx, .int .i64 fy, .int .i64 (fw : Int), .int .i64 (fh : Int), .slice (some ⟨g, 0, none⟩) (4 * M) c] ∧ wn.heap.size ≤ g ∧ Rd w' g 0 (madeL (pasteP zs (madeL (fun _ c => F c) (4 * 1)) fw 1 i j 0 0 1 1) (4 * M)) else u = [.int .i64 0, .bool false, .bool false, .int .i64 0, .bool false, .bool false, .bool false, .pointer (some ⟨p17, 0, none⟩), .float .f32 (canon (zs.getD (4 * (j * fw + i)) 0)), .pointer (some ⟨p20, 0, none⟩), .float .f32 (zs.getD (4 * (j * fw + i)) 0), .float .f32 (canon (zs.getD (4 * (j * fw + i)) 0)), .bool true, .bool false, .bool false, .bool false, .pointer (some ⟨p17, 3, none⟩), .float .f32 (canon (zs.getD (4 * (j * fw + i) + 3) 0)), .pointer (some ⟨p20, 3, none⟩), .float .f32 (zs.getD (4 * (j * fw + i) + 3) 0), .float .f32 (canon (zs.getD (4 * (j * fw + i) + 3) 0)), .bool true, .bool false, .bool false, .bool false, .agg #[.int .i64 fx, .int .i64 fy, .int .i64 (fw : Int), .int .i64 (fh : Int), .slice (some ⟨gp, 0, none⟩) (4 * M) (4 * M)], .agg #[.int .i64 fx, .int .i64 fy, .int .i64 (fw : Int), .int .i64 (fh : Int), .slice (some ⟨g1, 0, none⟩) (4 * M) (4 * M)], .agg #[.int .i64 (fx + (i : Int)), .int .i64 (fy + (j : Int)), .int .i64 1, .int .i64 1, .slice (some ⟨go, 0, none⟩) (4 * 1) ko], undef, .bool true, .bool false].getD q undef) (fun _ => false) (fun w' => Below wn.heap.size wn w') (by kernel_rfl) (by kernel_rfl) (fun _ _ _ _ _ h => h)
            (fun _ _ h e => e.trans (h.mono e.size)) (fun t u a' b' hb h => ?_) (Below.refl _ _).drew ?_ ?_ ?_
          · split
            · rename_i h4
              rw [if_pos h4] at h
              obtain ⟨g, c, e1, e2, e3⟩ := h
              exact ⟨g, c, e1, e2, e3.keep hb⟩
            · rename_i h4
              rw [if_neg h4] at h
              exact h
          · intro t op ht hlt hop
            clear hlt
            rcases (by omega : t = 0 ∨ t = 1 ∨ t = 2 ∨ t = 3 ∨ t = 4 ∨ t = 5 ∨ t = 6 ∨ t = 7 ∨ t = 8 ∨ t = 9 ∨ t = 10 ∨ t = 11 ∨ t = 12 ∨ t = 13 ∨ t = 14 ∨ t = 15 ∨ t = 16 ∨ t = 17 ∨ t = 18 ∨ t = 19 ∨ t = 20 ∨ t = 21 ∨ t = 22 ∨ t = 23 ∨ t = 24 ∨ t = 25 ∨ t = 26 ∨ t = 27 ∨ t = 28 ∨ t = 29 ∨ t = 30) with rfl | rfl | rfl | rfl | rfl | rfl | rfl | rfl | rfl | rfl | rfl | rfl | rfl | rfl | rfl | rfl | rfl | rfl | rfl | rfl | rfl | rfl | rfl | rfl | rfl | rfl | rfl | rfl | rfl | rfl | rfl
            all_goals simp only [List.getElem?_cons_zero, List.getElem?_cons_succ, Option.some.injEq] at hop
            all_goals subst hop
            all_goals intro a wx hE hag hdep
            · refine grd_none rfl ?_
              have e0 := slot_eq (hag 14 rfl)
              exact rel_pure _ rfl rfl (by simp [go_sem, e0])
            · refine grd_none rfl ?_
              have e0 := slot_eq (hdep ⟨0, .data⟩ (by simp) rfl)
              exact rel_pure _ rfl rfl (by simp [go_sem, e0])
            · refine grd_none rfl ?_
              have e0 := slot_eq (hdep ⟨1, .data⟩ (by simp) rfl)
              exact rel_pure _ rfl rfl (by simp [go_sem, e0])
            · refine grd_yes (j := 2) (b := false) rfl (hdep ⟨2, .guard⟩ (by simp) rfl) ?_
              have e0 := slot_eq (hag 19 rfl)
              exact rel_pure _ rfl rfl (by simp [go_sem, e0])
            · refine grd_yes (j := 2) (b := false) rfl (hdep ⟨2, .guard⟩ (by simp) rfl) ?_
              have e0 := slot_eq (hdep ⟨3, .data⟩ (by simp) rfl)
              exact rel_pure _ rfl rfl (by simp [go_sem, e0])
            · refine grd_none rfl ?_
              have e0 := slot_eq (hdep ⟨2, .data⟩ (by simp) rfl)
              have e1 := slot_eq (hdep ⟨4, .data⟩ (by simp) rfl)
              exact rel_pure _ rfl rfl (by simp [go_sem, e0, e1])
            · refine grd_none rfl ?_
              have e0 := slot_eq (hdep ⟨5, .data⟩ (by simp) rfl)
              exact rel_pure _ rfl rfl (by simp [go_sem, e0])
            · refine grd_yes (j := 6) (b := false) rfl (hdep ⟨6, .guard⟩ (by simp) rfl) ?_
              have e0 := slot_eq (hag 17 rfl)
              exact rel_pure _ rfl rfl (by simp [go_sem, e0])
            · refine grd_yes (j := 6) (b := false) rfl (hdep ⟨6, .guard⟩ (by simp) rfl) ?_
              have e0 := slot_eq (hdep ⟨7, .data⟩ (by simp) rfl)
              have hq := (x17.keep hE).all.1 0
              exact rel_pure _ rfl rfl (by simp [go_sem, e0, hq])
            · refine grd_yes (j := 6) (b := false) rfl (hdep ⟨6, .guard⟩ (by simp) rfl) ?_
              have e0 := slot_eq (hag 20 rfl)
              exact rel_pure _ rfl rfl (by simp [go_sem, e0])
            · refine grd_yes (j := 6) (b := false) rfl (hdep ⟨6, .guard⟩ (by simp) rfl) ?_
              have e0 := slot_eq (hdep ⟨9, .data⟩ (by simp) rfl)
              have hq := (x20.keep hE).all.1 0
              exact rel_pure _ rfl rfl (by simp [go_sem, e0, hq])
            · refine grd_yes (j := 6) (b := false) rfl (hdep ⟨6, .guard⟩ (by simp) rfl) ?_
              have e0 := slot_eq (hdep ⟨10, .data⟩ (by simp) rfl)
              refine rel_call (f := 65) (args := #[.float .f32 (zs.getD (4 * (j * fw + i)) 0)]) (run_go_call Try.func65 (by kernel_rfl) (by kernel_rfl) _ _ _ _ _ _ _ _ _ _ (by simp [Act.eval, e0])) rfl ?_
              refine (ref_Fix _ wx).mono ?_
              rintro e w' ⟨rfl, rfl⟩
              exact ⟨_, rfl, rfl, Below.refl _ _⟩
            · refine grd_yes (j := 6) (b := false) rfl (hdep ⟨6, .guard⟩ (by simp) rfl) ?_
              have e0 := slot_eq (hdep ⟨8, .data⟩ (by simp) rfl)
              have e1 := slot_eq (hdep ⟨11, .data⟩ (by simp) rfl)
              refine rel_call (f := 24) (args := #[.float .f32 (canon (zs.getD (4 * (j * fw + i)) 0)), .float .f32 (canon (zs.getD (4 * (j * fw + i)) 0))]) (run_go_call Try.func24 (by kernel_rfl) (by kernel_rfl) _ _ _ _ _ _ _ _ _ _ (by simp [Act.eval, e0, e1])) rfl ?_
              refine (law_exact_same _ wx).mono ?_
              rintro e w' ⟨rfl, rfl⟩
              exact ⟨_, rfl, rfl, Below.refl _ _⟩
            · refine grd_yes (j := 6) (b := false) rfl (hdep ⟨6, .guard⟩ (by simp) rfl) ?_
              have e0 := slot_eq (hdep ⟨12, .data⟩ (by simp) rfl)
              exact rel_pure _ rfl rfl (by simp [go_sem, e0])
            · refine grd_none rfl ?_
              have e0 := slot_eq (hdep ⟨6, .data⟩ (by simp) rfl)
              have e1 := slot_eq (hdep ⟨13, .data⟩ (by simp) rfl)
              exact rel_pure _ rfl rfl (by simp [go_sem, e0, e1])
            · refine grd_none rfl ?_
              have e0 := slot_eq (hdep ⟨14, .data⟩ (by simp) rfl)
              exact rel_pure _ rfl rfl (by simp [go_sem, e0])
            · refine grd_yes (j := 15) (b := false) rfl (hdep ⟨15, .guard⟩ (by simp) rfl) ?_
              have e0 := slot_eq (hag 17 rfl)
              exact rel_pure _ rfl rfl (by simp [go_sem, e0])
            · refine grd_yes (j := 15) (b := false) rfl (hdep ⟨15, .guard⟩ (by simp) rfl) ?_
              have e0 := slot_eq (hdep ⟨16, .data⟩ (by simp) rfl)
              have hq := (x17.keep hE).all.1 3
              exact rel_pure _ rfl rfl (by simp [go_sem, e0, hq])
            · refine grd_yes (j := 15) (b := false) rfl (hdep ⟨15, .guard⟩ (by simp) rfl) ?_
              have e0 := slot_eq (hag 20 rfl)
              exact rel_pure _ rfl rfl (by simp [go_sem, e0])
            · refine grd_yes (j := 15) (b := false) rfl (hdep ⟨15, .guard⟩ (by simp) rfl) ?_
              have e0 := slot_eq (hdep ⟨18, .data⟩ (by simp) rfl)
              have hq := (x20.keep hE).all.1 3
              exact rel_pure _ rfl rfl (by simp [go_sem, e0, hq])
            · refine grd_yes (j := 15) (b := false) rfl (hdep ⟨15, .guard⟩ (by simp) rfl) ?_
              have e0 := slot_eq (hdep ⟨19, .data⟩ (by simp) rfl)
              refine rel_call (f := 65) (args := #[.float .f32 (zs.getD (4 * (j * fw + i) + 3) 0)]) (run_go_call Try.func65 (by kernel_rfl) (by kernel_rfl) _ _ _ _ _ _ _ _ _ _ (by simp [Act.eval, e0])) rfl ?_
              refine (ref_Fix _ wx).mono ?_
              rintro e w' ⟨rfl, rfl⟩
              exact ⟨_, rfl, rfl, Below.refl _ _⟩
            · refine grd_yes (j := 15) (b := false) rfl (hdep ⟨15, .guard⟩ (by simp) rfl) ?_
              have e0 := slot_eq (hdep ⟨17, .data⟩ (by simp) rfl)
              have e1 := slot_eq (hdep ⟨20, .data⟩ (by simp) rfl)
              refine rel_call (f := 24) (args := #[.float .f32 (canon (zs.getD (4 * (j * fw + i) + 3) 0)), .float .f32 (canon (zs.getD (4 * (j * fw + i) + 3) 0))]) (run_go_call Try.func24 (by kernel_rfl) (by kernel_rfl) _ _ _ _ _ _ _ _ _ _ (by simp [Act.eval, e0, e1])) rfl ?_
              refine (law_exact_same _ wx).mono ?_
              rintro e w' ⟨rfl, rfl⟩
              exact ⟨_, rfl, rfl, Below.refl _ _⟩
            · refine grd_yes (j := 15) (b := false) rfl (hdep ⟨15, .guard⟩ (by simp) rfl) ?_
              have e0 := slot_eq (hdep ⟨21, .data⟩ (by simp) rfl)
              exact rel_pure _ rfl rfl (by simp [go_sem, e0])
            · refine grd_none rfl ?_
              have e0 := slot_eq (hdep ⟨15, .data⟩ (by simp) rfl)
              have e1 := slot_eq (hdep ⟨22, .data⟩ (by simp) rfl)
              exact rel_pure _ rfl rfl (by simp [go_sem, e0, e1])
            · refine grd_none rfl ?_
              have e0 := slot_eq (hdep ⟨23, .data⟩ (by simp) rfl)
              exact rel_pure _ rfl rfl (by simp [go_sem, e0])
            · refine grd_yes (j := 24) (b := false) rfl (hdep ⟨24, .guard⟩ (by simp) rfl) ?_
              have e0 := slot_eq (hag 18 rfl)
              have hq := (x18.keep hE).all.1
              exact rel_pure _ rfl rfl (by simp [go_sem, e0, hq])
            · refine grd_yes (j := 24) (b := false) rfl (hdep ⟨24, .guard⟩ (by simp) rfl) ?_
              have e0 := slot_eq (hag 6 rfl)
              have hq := (fa.1.keep hE).all.1
              exact rel_pure _ rfl rfl (by simp [go_sem, e0, hq])
            · refine grd_yes (j := 24) (b := false) rfl (hdep ⟨24, .guard⟩ (by simp) rfl) ?_
              have e0 := slot_eq (hag 21 rfl)
              have hq := (x21.keep hE).all.1
              exact rel_pure _ rfl rfl (by simp [go_sem, e0, hq])
            · refine grd_yes (j := 24) (b := false) rfl (hdep ⟨24, .guard⟩ (by simp) rfl) ?_
              have e0 := slot_eq (hdep ⟨26, .data⟩ (by simp) rfl)
              have e1 := slot_eq (hdep ⟨27, .data⟩ (by simp) rfl)
              refine rel_call (f := 66) (args := #[.agg #[.int .i64 fx, .int .i64 fy, .int .i64 (fw : Int), .int .i64 (fh : Int), .slice (some ⟨g1, 0, none⟩) (4 * M) (4 * M)], .agg #[.int .i64 (fx + (i : Int)), .int .i64 (fy + (j : Int)), .int .i64 1, .int .i64 1, .slice (some ⟨go, 0, none⟩) (4 * 1) ko]]) (run_go_call Try.func66 (by kernel_rfl) (by kernel_rfl) _ _ _ _ _ _ _ _ _ _ (by simp [Act.eval, e0, e1])) rfl ?_
              refine (ref_Paste fx fy (fx + (i : Int)) (fy + (j : Int)) fw fh 1 1 i j 0 0 1 1 g1 0 (4 * M) (4 * M) go 0 (4 * 1) ko zs _ wx (by omega) (by omega) (by omega) (by omega) (by omega) (by omega) (by omega) (by omega) (by omega) (by omega) (by omega) (by omega) (by omega) (by omega) (by omega) (by omega) ⟨by omega, by omega, by omega, by omega, by omega, by omega, by omega, by omega, .inr rfl, .inr rfl, .inr rfl, .inr rfl⟩ (by rw [hd.out.2.2.1]) (Nat.le_refl _) hd.out.1 (fa.2.1.keep hE) rfl hko (madeL_len _ _) (rone.keep hE)).mono ?_
              rintro e w' ⟨g, c, rfl, hcc, hg, hrd, hb⟩
              rw [← hd.out.2.2.1] at hrd
              exact ⟨_, rfl, ⟨g, c, by rw [hd.out.2.2.1], Nat.le_trans hE.size hg, hrd⟩, hb⟩
            · refine grd_yes (j := 24) (b := false) rfl (hdep ⟨24, .guard⟩ (by simp) rfl) ?_
              have e0 := slot_eq (hdep ⟨25, .data⟩ (by simp) rfl)
              obtain ⟨g, c, e1, hg, hrd⟩ := hdep ⟨28, .data⟩ (by simp) rfl
              have e1 := slot_eq e1
              refine rel_call (f := 29) (args := #[.agg #[.int .i64 fx, .int .i64 fy, .int .i64 (fw : Int), .int .i64 (fh : Int), .slice (some ⟨gp, 0, none⟩) (4 * M) (4 * M)], .agg #[.int .i64 fx, .int .i64 fy, .int .i64 (fw : Int), .int .i64 (fh : Int), .slice (some ⟨g, 0, none⟩) (4 * M) c]]) (run_go_call Try.func29 (by kernel_rfl) (by kernel_rfl) _ _ _ _ _ _ _ _ _ _ (by simp [Act.eval, e0, e1])) rfl ?_
              refine (ref_SameFrame _ _ _ _ _ _ _ _ _ _ _ _ wx (by omega) (madeL_len _ _) (by have h1 := rput.keep hE; have h2 := put_made zs fw fh i j F hij.1; rw [← hd.out.2.2.1] at h2; rw [h2] at h1; exact h1) hrd).mono ?_
              rintro e w' ⟨rfl, hb⟩
              exact ⟨_, rfl, rfl, hb⟩
            · refine grd_yes (j := 24) (b := false) rfl (hdep ⟨24, .guard⟩ (by simp) rfl) ?_
              have e0 := slot_eq (hdep ⟨29, .data⟩ (by simp) rfl)
              exact rel_pure _ rfl rfl (by simp [go_sem, e0])
          · intro t op ht hlt; cases hlt
          · intro vs wv2 hE hvs _
            have k24 : vs 24 = .bool false := hvs 24 (by omega)
            have k30 : vs 30 = .bool false := hvs 30 (by omega)
            simp only [List.drop_succ_cons, List.drop_zero, putAll, dstAt, List.getElem?_toArray, List.getElem?_cons_zero, List.getElem?_cons_succ, Option.bind_some, Act.put, List.setIfInBounds_toArray, List.set_cons_zero, List.set_cons_succ, k24, k30]
            clear hvs k24 k30
            replace fa := fa.keep hE
            replace fb := fb.keep hE
            replace xR := xR.keep hE
            replace xP := xP.keep hE
            replace B := B.trans (hE.mono B.size)
            clear hE x17 x18 x20 x21 rput rone hgp hgo hko
            obtain ⟨q0, f0, l0⟩ := fa.1.all
            obtain ⟨q1, f1, l1⟩ := fb.1.all
            obtain ⟨q2, f2, l2⟩ := xR.all
            obtain ⟨q3, f3, l3⟩ := xP.all
            go_wp2_with fail
            cases hI2 : inB rx ry rw_ rh fx fy fw fh
            · have hi2 := Lib.hid hI2
              clear hI2
              have hcr : Hid ((1 ≤ rw_ ∧ rw_ ≤ 256) ∧ (1 ≤ rh ∧ rh ≤ 256)) := Lib.hid (by have := checkRegion_zero hk.out; omega)
              refine (frame_Cut_out _ _ _ _ _ _ _ _ _ _ _ _ (by unfold maxLen; omega) fa.chk fa.reg hk.out hi2.out).mono ?_
              rintro e wv ⟨rfl, hb⟩
              clear q0 f0 l0 q1 f1 l1 q2 f2 l2 q3 f3 l3
              replace fa := fa.keep hb
              replace fb := fb.keep hb
              replace xR := xR.keep hb
              replace xP := xP.keep hb
              replace B := bcall B hb
              clear hb
              obtain ⟨q0, f0, l0⟩ := fa.1.all
              obtain ⟨q1, f1, l1⟩ := fb.1.all
              obtain ⟨q2, f2, l2⟩ := xR.all
              obtain ⟨q3, f3, l3⟩ := xP.all
              go_wp2_with fail
              refine nm_call ?_
              intro wn hwn
              have x22 : Bx wn wv.heap.size 26 #[.int .i64 0, .int .i64 0, .int .i64 0, .int .i64 0, .slice none 0 0] := by rw [hwn]; exact Bx.new _ _ _
              have hb : Below wv.heap.size wv wn := by rw [hwn]; exact bnew (Below.refl _ _)
              clear q0 f0 l0 q1 f1 l1 q2 f2 l2 q3 f3 l3
              replace fa := fa.keep hb
              replace fb := fb.keep hb
              replace xR := xR.keep hb
              replace xP := xP.keep hb
              replace B := bcall B hb
              clear hwn hb
              generalize wv.heap.size = p22 at *
              refine (ref_Inside_is _ _ _ _ _ _ _ _ false hi2.out _ (by omega) (by omega) (by omega) (by omega) (by omega) (by omega) (by omega) (by omega) (by have := hcr.out; omega) (by have := hcr.out; omega) (by have := hcr.out; omega) (by have := hcr.out; omega)).mono ?_
              rintro e wv ⟨rfl, hb⟩
              replace fa := fa.keep hb
              replace fb := fb.keep hb
              replace xR := xR.keep hb
              replace xP := xP.keep hb
              replace x22 := x22.keep hb
              replace B := bcall B hb
              clear hb
              clear x22
              obtain ⟨q0, f0, l0⟩ := fa.1.all
              obtain ⟨q1, f1, l1⟩ := fb.1.all
              obtain ⟨q2, f2, l2⟩ := xR.all
              obtain ⟨q3, f3, l3⟩ := xP.all
              go_wp2_with fail
              rcases common_meet fx fy fw fh gx gy gw gh (by omega) (by omega) (by omega) (by omega) with ⟨i0, j0, i1, j1, cw, ch, hm, hcm⟩ | ⟨hcm, _⟩
              · have Hm := Lib.hid (And.intro hm hcm)
                clear hm hcm
                refine (frame_Paste_ok fx fy gx gy fw fh gw gh g1 0 (4 * M) (4 * M) g2 0 (4 * M2) (4 * M2) zs zs2 _ fa.chk fa.reg fb.chk fb.reg (by rw [hd.out.2.2.1]) hd.out.1 fa.2.1 (by rw [hd.out.2.2.2.2.2]) hd.out.2.2.2.1 fb.2.1 i0 j0 i1 j1 cw ch Hm.out.1 Hm.out.2).mono ?_
                rintro e wv ⟨gq, rfl, hgq, rowq, hb⟩
                clear q0 f0 l0 q1 f1 l1 q2 f2 l2 q3 f3 l3
                replace fa := fa.keep hb
                replace fb := fb.keep hb
                replace xR := xR.keep hb
                replace xP := xP.keep hb
                replace B := bcall B hb
                clear hb
                have rq := rowq.rd
                clear rowq
                have hx23 : W.heap.size + 1 + 1 + 1 < wv.heap.size := xP.lt
                obtain ⟨q0, f0, l0⟩ := fa.1.all
                obtain ⟨q1, f1, l1⟩ := fb.1.all
                obtain ⟨q2, f2, l2⟩ := xR.all
                obtain ⟨q3, f3, l3⟩ := xP.all
                go_wp2_with fail
                refine nm_call ?_
                intro wn hwn
                have x23 : Bx wn wv.heap.size 26 #[.int .i64 fx, .int .i64 fy, .int .i64 (fw : Int), .int .i64 (fh : Int), .slice (some ⟨gq, 0, none⟩) (4 * M) (4 * M)] := by rw [hwn]; exact Bx.new _ _ _
                have hb : Below wv.heap.size wv wn := by rw [hwn]; exact bnew (Below.refl _ _)
                clear q0 f0 l0 q1 f1 l1 q2 f2 l2 q3 f3 l3
                replace fa := fa.keep hb
                replace fb := fb.keep hb
                replace xR := xR.keep hb
                replace xP := xP.keep hb
                replace rq := rq.keep hb
                replace B := bcall B hb
                clear hwn hb
                generalize wv.heap.size = p23 at *
                refine (ref_Common_at _ _ _ _ _ _ _ _ _ _ _ _ _ Hm.out.2 _ (by omega) (by omega) (by omega) (by omega) (by omega) (by omega) (by omega) (by omega) (by omega) (by omega) (by omega) (by omega) (by omega) (by omega) (by omega) (by omega)).mono ?_
                rintro e wv ⟨rfl, hb⟩
                replace fa := fa.keep hb
                replace fb := fb.keep hb
                replace xR := xR.keep hb
                replace xP := xP.keep hb
                replace x23 := x23.keep hb
                replace rq := rq.keep hb
                replace B := bcall B hb
                clear hb
                have hx24 : p23 < wv.heap.size := x23.lt
                obtain ⟨q0, f0, l0⟩ := fa.1.all
                obtain ⟨q1, f1, l1⟩ := fb.1.all
                obtain ⟨q2, f2, l2⟩ := xR.all
                obtain ⟨q3, f3, l3⟩ := xP.all
                obtain ⟨q4, f4, l4⟩ := x23.all
                go_wp2_with fail
                refine name_world ?_
                intro wn hwn
                have x24 : Bx wn wv.heap.size 23 #[.int .i64 (fx + i0), .int .i64 (fy + j0), .int .i64 (cw : Int), .int .i64 (ch : Int)] := by rw [hwn]; exact Bx.new _ _ _
                have hb : Below wv.heap.size wv wn := by rw [hwn]; exact bnew (Below.refl _ _)
                clear q0 f0 l0 q1 f1 l1 q2 f2 l2 q3 f3 l3 q4 f4 l4
                replace fa := fa.keep hb
                replace fb := fb.keep hb
                replace xR := xR.keep hb
                replace xP := xP.keep hb
                replace x23 := x23.keep hb
                replace rq := rq.keep hb
                replace B := bcall B hb
                clear hwn hb
                generalize wv.heap.size = p24 at *
                by_cases heq : fx = gx ∧ fy = gy ∧ fw = gw ∧ fh = gh
                · obtain ⟨rfl, rfl, rfl, rfl⟩ := heq
                  obtain rfl : M = M2 := by rw [hd.out.2.2.1, hd.out.2.2.2.2.2]
                  refine wp_region_grd 18 (fun _ => false) (fun q u w' => if q = 6 then ∃ g c, u = .agg #[.int .i64 fx, .int .i64 fy, .int .i64 (fw : Int), .int .i64 (fh : Int), .slice (some ⟨g, 0, none⟩) (4 * M) c] ∧ wn.heap.size ≤ g ∧ Rd w' g 0 (madeL (pasteP zs zs2 fw fw i0 j0 i1 j1 cw ch) (4 * M)) else u = [.int .i64 0, .bool true, .bool true, .agg #[.int .i64 fx, .int .i64 fy, .int .i64 (fw : Int), .int .i64 (fh : Int), .slice (some ⟨gq, 0, none⟩) (4 * M) (4 * M)], .agg #[.int .i64 fx, .int .i64 fy, .int .i64 (fw : Int), .int .i64 (fh : Int), .slice (some ⟨g1, 0, none⟩) (4 * M) (4 * M)], .agg #[.int .i64 fx, .int .i64 fy, .int .i64 (fw : Int), .int .i64 (fh : Int), .slice (some ⟨g2, 0, none⟩) (4 * M) (4 * M)], undef, .bool true, .bool true, .bool true, .agg #[.int .i64 fx, .int .i64 fy, .int .i64 (fw : Int), .int .i64 (fh : Int), .slice (some ⟨g1, 0, none⟩) (4 * M) (4 * M)], .agg #[.int .i64 fx, .int .i64 fy, .int .i64 (fw : Int), .int .i64 (fh : Int), .slice (some ⟨g2, 0, none⟩) (4 * M) (4 * M)], .bool (allSame (4 * M) zs zs2), .agg #[.int .i64 fx, .int .i64 fy, .int .i64 (fw : Int), .int .i64 (fh : Int), .slice (some ⟨g1, 0, none⟩) (4 * M) (4 * M)], .agg #[.int .i64 fx, .int .i64 fy, .int .i64 (fw : Int), .int .i64 (fh : Int), .slice (some ⟨g2, 0, none⟩) (4 * M) (4 * M)], .bool (allSame (4 * M) zs zs2), .bool true, .bool true].getD q undef) (fun _ => false) (fun w' => Below wn.heap.size wn w') (by kernel_rfl) (by kernel_rfl) (fun _ _ _ _ _ h => h)
                    (fun _ _ h e => e.trans (h.mono e.size)) (fun t u a' b' hb h => ?_) (Below.refl _ _).drew ?_ ?_ ?_
                  · split
                    · rename_i h4
                      rw [if_pos h4] at h
                      obtain ⟨g, c, e1, e2, e3⟩ := h
                      exact ⟨g, c, e1, e2, e3.keep hb⟩
                    · rename_i h4
                      rw [if_neg h4] at h
                      exact h
                  · intro t op ht hlt hop
                    clear hlt
                    rcases (by omega : t = 0 ∨ t = 1 ∨ t = 2 ∨ t = 3 ∨ t = 4 ∨ t = 5 ∨ t = 6 ∨ t = 7 ∨ t = 8 ∨ t = 9 ∨ t = 10 ∨ t = 11 ∨ t = 12 ∨ t = 13 ∨ t = 14 ∨ t = 15 ∨ t = 16 ∨ t = 17) with rfl | rfl | rfl | rfl | rfl | rfl | rfl | rfl | rfl | rfl | rfl | rfl | rfl | rfl | rfl | rfl | rfl | rfl
                    all_goals simp only [List.getElem?_cons_zero, List.getElem?_cons_succ, Option.some.injEq] at hop
                    all_goals subst hop
                    all_goals intro a wx hE hag hdep
                    · refine grd_none rfl ?_
                      have e0 := slot_eq (hag 14 rfl)
                      exact rel_pure _ rfl rfl (by simp [go_sem, e0])
                    · refine grd_none rfl ?_
                      have e0 := slot_eq (hdep ⟨0, .data⟩ (by simp) rfl)
                      exact rel_pure _ rfl rfl (by simp [go_sem, e0])
                    · refine grd_none rfl ?_
                      have e0 := slot_eq (hdep ⟨1, .data⟩ (by simp) rfl)
                      exact rel_pure _ rfl rfl (by simp [go_sem, e0])
                    · refine grd_yes (j := 2) (b := true) rfl (hdep ⟨2, .guard⟩ (by simp) rfl) ?_
                      have e0 := slot_eq (hag 23 rfl)
                      have hq := (x23.keep hE).all.1
                      exact rel_pure _ rfl rfl (by simp [go_sem, e0, hq])
                    · refine grd_yes (j := 2) (b := true) rfl (hdep ⟨2, .guard⟩ (by simp) rfl) ?_
                      have e0 := slot_eq (hag 6 rfl)
                      have hq := (fa.1.keep hE).all.1
                      exact rel_pure _ rfl rfl (by simp [go_sem, e0, hq])
                    · refine grd_yes (j := 2) (b := true) rfl (hdep ⟨2, .guard⟩ (by simp) rfl) ?_
                      have e0 := slot_eq (hag 7 rfl)
                      have hq := (fb.1.keep hE).all.1
                      exact rel_pure _ rfl rfl (by simp [go_sem, e0, hq])
                    · refine grd_yes (j := 2) (b := true) rfl (hdep ⟨2, .guard⟩ (by simp) rfl) ?_
                      have e0 := slot_eq (hdep ⟨4, .data⟩ (by simp) rfl)
                      have e1 := slot_eq (hdep ⟨5, .data⟩ (by simp) rfl)
                      refine rel_call (f := 66) (args := #[.agg #[.int .i64 fx, .int .i64 fy, .int .i64 (fw : Int), .int .i64 (fh : Int), .slice (some ⟨g1, 0, none⟩) (4 * M) (4 * M)], .agg #[.int .i64 fx, .int .i64 fy, .int .i64 (fw : Int), .int .i64 (fh : Int), .slice (some ⟨g2, 0, none⟩) (4 * M) (4 * M)]]) (run_go_call Try.func66 (by kernel_rfl) (by kernel_rfl) _ _ _ _ _ _ _ _ _ _ (by simp [Act.eval, e0, e1])) rfl ?_
                      refine (ref_Paste fx fy fx fy fw fh fw fh i0 j0 i1 j1 cw ch g1 0 (4 * M) (4 * M) g2 0 (4 * M) (4 * M) zs zs2 wx (by omega) (by omega) (by omega) (by omega) (by omega) (by omega) (by omega) (by omega) (by omega) (by omega) (by omega) (by omega) (by omega) (by omega) (by omega) (by omega) Hm.out.1 (by rw [hd.out.2.2.1]) (Nat.le_refl _) hd.out.1 (fa.2.1.keep hE) (by rw [hd.out.2.2.2.2.2]) (Nat.le_refl _) hd.out.2.2.2.1 (fb.2.1.keep hE)).mono ?_
                      rintro e w' ⟨g, c, rfl, hcc, hg, hrd, hb⟩
                      rw [← hd.out.2.2.1] at hrd
                      exact ⟨_, rfl, ⟨g, c, by rw [hd.out.2.2.1], Nat.le_trans hE.size hg, hrd⟩, hb⟩
                    · refine grd_yes (j := 2) (b := true) rfl (hdep ⟨2, .guard⟩ (by simp) rfl) ?_
                      have e0 := slot_eq (hdep ⟨3, .data⟩ (by simp) rfl)
                      obtain ⟨g, c, e1, hg, hrd⟩ := hdep ⟨6, .data⟩ (by simp) rfl
                      have e1 := slot_eq e1
                      refine rel_call (f := 29) (args := #[.agg #[.int .i64 fx, .int .i64 fy, .int .i64 (fw : Int), .int .i64 (fh : Int), .slice (some ⟨gq, 0, none⟩) (4 * M) (4 * M)], .agg #[.int .i64 fx, .int .i64 fy, .int .i64 (fw : Int), .int .i64 (fh : Int), .slice (some ⟨g, 0, none⟩) (4 * M) c]]) (run_go_call Try.func29 (by kernel_rfl) (by kernel_rfl) _ _ _ _ _ _ _ _ _ _ (by simp [Act.eval, e0, e1])) rfl ?_
                      refine (ref_SameFrame _ _ _ _ _ _ _ _ _ _ _ _ wx (by omega) (madeL_len _ _) (rq.keep hE) hrd).mono ?_
                      rintro e w' ⟨rfl, hb⟩
                      exact ⟨_, rfl, rfl, hb⟩
                    · refine grd_none rfl ?_
                      have e0 := slot_eq (hdep ⟨2, .data⟩ (by simp) rfl)
                      have e1 := slot_eq (hdep ⟨7, .data⟩ (by simp) rfl)
                      exact rel_pure _ rfl rfl (by simp [go_sem, e0, e1])
                    · refine grd_none rfl ?_
                      have e0 := slot_eq (hdep ⟨8, .data⟩ (by simp) rfl)
                      exact rel_pure _ rfl rfl (by simp [go_sem, e0])
                    · refine grd_yes (j := 9) (b := true) rfl (hdep ⟨9, .guard⟩ (by simp) rfl) ?_
                      have e0 := slot_eq (hag 6 rfl)
                      have hq := (fa.1.keep hE).all.1
                      exact rel_pure _ rfl rfl (by simp [go_sem, e0, hq])
                    · refine grd_yes (j := 9) (b := true) rfl (hdep ⟨9, .guard⟩ (by simp) rfl) ?_
                      have e0 := slot_eq (hag 7 rfl)
                      have hq := (fb.1.keep hE).all.1
                      exact rel_pure _ rfl rfl (by simp [go_sem, e0, hq])
                    · refine grd_yes (j := 9) (b := true) rfl (hdep ⟨9, .guard⟩ (by simp) rfl) ?_
                      have e0 := slot_eq (hdep ⟨10, .data⟩ (by simp) rfl)
                      have e1 := slot_eq (hdep ⟨11, .data⟩ (by simp) rfl)
                      refine rel_call (f := 70) (args := #[.agg #[.int .i64 fx, .int .i64 fy, .int .i64 (fw : Int), .int .i64 (fh : Int), .slice (some ⟨g1, 0, none⟩) (4 * M) (4 * M)], .agg #[.int .i64 fx, .int .i64 fy, .int .i64 (fw : Int), .int .i64 (fh : Int), .slice (some ⟨g2, 0, none⟩) (4 * M) (4 * M)]]) (run_go_call Try.func70 (by kernel_rfl) (by kernel_rfl) _ _ _ _ _ _ _ _ _ _ (by simp [Act.eval, e0, e1])) rfl ?_
                      refine (frame_Same_in _ _ _ _ _ _ _ _ _ _ _ zs zs2 wx (by omega) hd.out.1 hd.out.2.2.2.1 (fa.2.1.keep hE) (fb.2.1.keep hE)).mono ?_
                      rintro e w' ⟨rfl, hb⟩
                      exact ⟨_, rfl, rfl, hb⟩
                    · refine grd_yes (j := 9) (b := true) rfl (hdep ⟨9, .guard⟩ (by simp) rfl) ?_
                      have e0 := slot_eq (hag 6 rfl)
                      have hq := (fa.1.keep hE).all.1
                      exact rel_pure _ rfl rfl (by simp [go_sem, e0, hq])
                    · refine grd_yes (j := 9) (b := true) rfl (hdep ⟨9, .guard⟩ (by simp) rfl) ?_
                      have e0 := slot_eq (hag 7 rfl)
                      have hq := (fb.1.keep hE).all.1
                      exact rel_pure _ rfl rfl (by simp [go_sem, e0, hq])
                    · refine grd_yes (j := 9) (b := true) rfl (hdep ⟨9, .guard⟩ (by simp) rfl) ?_
                      have e0 := slot_eq (hdep ⟨13, .data⟩ (by simp) rfl)
                      have e1 := slot_eq (hdep ⟨14, .data⟩ (by simp) rfl)
                      refine rel_call (f := 71) (args := #[.agg #[.int .i64 fx, .int .i64 fy, .int .i64 (fw : Int), .int .i64 (fh : Int), .slice (some ⟨g1, 0, none⟩) (4 * M) (4 * M)], .agg #[.int .i64 fx, .int .i64 fy, .int .i64 (fw : Int), .int .i64 (fh : Int), .slice (some ⟨g2, 0, none⟩) (4 * M) (4 * M)]]) (run_go_call Try.func71 (by kernel_rfl) (by kernel_rfl) _ _ _ _ _ _ _ _ _ _ (by simp [Act.eval, e0, e1])) rfl ?_
                      refine (ref_Same_in _ _ _ _ _ _ _ _ _ _ _ zs zs2 wx (by omega) hd.out.1 hd.out.2.2.2.1 (fa.2.1.keep hE) (fb.2.1.keep hE)).mono ?_
                      rintro e w' ⟨rfl, hb⟩
                      exact ⟨_, rfl, rfl, hb⟩
                    · refine grd_yes (j := 9) (b := true) rfl (hdep ⟨9, .guard⟩ (by simp) rfl) ?_
                      have e0 := slot_eq (hdep ⟨12, .data⟩ (by simp) rfl)
                      have e1 := slot_eq (hdep ⟨15, .data⟩ (by simp) rfl)
                      exact rel_pure _ rfl rfl (by simp [go_sem, e0, e1])
                    · refine grd_none rfl ?_
                      have e0 := slot_eq (hdep ⟨9, .data⟩ (by simp) rfl)
                      have e1 := slot_eq (hdep ⟨16, .data⟩ (by simp) rfl)
                      exact rel_pure _ rfl rfl (by simp [go_sem, e0, e1])
                  · intro t op ht hlt; cases hlt
                  · intro vs wv2 hE hvs _
                    have k17 : vs 17 = .bool true := hvs 17 (by omega)
                    simp only [List.drop_succ_cons, List.drop_zero, putAll, dstAt, List.getElem?_toArray, List.getElem?_cons_zero, List.getElem?_cons_succ, Option.bind_some, Act.put, List.setIfInBounds_toArray, List.set_cons_zero, List.set_cons_succ, k17]
                    clear hvs k17
                    replace fa := fa.keep hE
                    replace fb := fb.keep hE
                    replace xR := xR.keep hE
                    replace xP := xP.keep hE
                    replace B := B.trans (hE.mono B.size)
                    clear hE x23 x24 rq hgq
                    go_wp2_with fail
                    go_ret
                    exact ⟨rfl, B⟩
                · have hne : Hid (¬ (fx = gx ∧ fy = gy ∧ (fw : Int) = gw ∧ (fh : Int) = gh)) := Lib.hid (fun hh => heq ⟨hh.1, hh.2.1, by omega, by omega⟩)
                  clear heq
                  refine wp_region_grd 18 (fun _ => false) (fun q u w' => if q = 6 then ∃ g c, u = .agg #[.int .i64 fx, .int .i64 fy, .int .i64 (fw : Int), .int .i64 (fh : Int), .slice (some ⟨g, 0, none⟩) (4 * M) c] ∧ wn.heap.size ≤ g ∧ Rd w' g 0 (madeL (pasteP zs zs2 fw gw i0 j0 i1 j1 cw ch) (4 * M)) else u = [.int .i64 0, .bool true, .bool true, .agg #[.int .i64 fx, .int .i64 fy, .int .i64 (fw : Int), .int .i64 (fh : Int), .slice (some ⟨gq, 0, none⟩) (4 * M) (4 * M)], .agg #[.int .i64 fx, .int .i64 fy, .int .i64 (fw : Int), .int .i64 (fh : Int), .slice (some ⟨g1, 0, none⟩) (4 * M) (4 * M)], .agg #[.int .i64 gx, .int .i64 gy, .int .i64 (gw : Int), .int .i64 (gh : Int), .slice (some ⟨g2, 0, none⟩) (4 * M2) (4 * M2)], undef, .bool true, .bool true, .bool true, .agg #[.int .i64 fx, .int .i64 fy, .int .i64 (fw : Int), .int .i64 (fh : Int), .slice (some ⟨g1, 0, none⟩) (4 * M) (4 * M)], .agg #[.int .i64 gx, .int .i64 gy, .int .i64 (gw : Int), .int .i64 (gh : Int), .slice (some ⟨g2, 0, none⟩) (4 * M2) (4 * M2)], .bool (false), .agg #[.int .i64 fx, .int .i64 fy, .int .i64 (fw : Int), .int .i64 (fh : Int), .slice (some ⟨g1, 0, none⟩) (4 * M) (4 * M)], .agg #[.int .i64 gx, .int .i64 gy, .int .i64 (gw : Int), .int .i64 (gh : Int), .slice (some ⟨g2, 0, none⟩) (4 * M2) (4 * M2)], .bool (false), .bool true, .bool true].getD q undef) (fun _ => false) (fun w' => Below wn.heap.size wn w') (by kernel_rfl) (by kernel_rfl) (fun _ _ _ _ _ h => h)
                    (fun _ _ h e => e.trans (h.mono e.size)) (fun t u a' b' hb h => ?_) (Below.refl _ _).drew ?_ ?_ ?_
                  · split
                    · rename_i h4
                      rw [if_pos h4] at h
                      obtain ⟨g, c, e1, e2, e3⟩ := h
                      exact ⟨g, c, e1, e2, e3.keep hb⟩
                    · rename_i h4
                      rw [if_neg h4] at h
                      exact h
                  · intro t op ht hlt hop
                    clear hlt
                    rcases (by omega : t = 0 ∨ t = 1 ∨ t = 2 ∨ t = 3 ∨ t = 4 ∨ t = 5 ∨ t = 6 ∨ t = 7 ∨ t = 8 ∨ t = 9 ∨ t = 10 ∨ t = 11 ∨ t = 12 ∨ t = 13 ∨ t = 14 ∨ t = 15 ∨ t = 16 ∨ t = 17) with rfl | rfl | rfl | rfl | rfl | rfl | rfl | rfl | rfl | rfl | rfl | rfl | rfl | rfl | rfl | rfl | rfl | rfl
                    all_goals simp only [List.getElem?_cons_zero, List.getElem?_cons_succ, Option.some.injEq] at hop
                    all_goals subst hop
                    all_goals intro a wx hE hag hdep
                    · refine grd_none rfl ?_
                      have e0 := slot_eq (hag 14 rfl)
                      exact rel_pure _ rfl rfl (by simp [go_sem, e0])
                    · refine grd_none rfl ?_
                      have e0 := slot_eq (hdep ⟨0, .data⟩ (by simp) rfl)
                      exact rel_pure _ rfl rfl (by simp [go_sem, e0])
                    · refine grd_none rfl ?_
                      have e0 := slot_eq (hdep ⟨1, .data⟩ (by simp) rfl)
                      exact rel_pure _ rfl rfl (by simp [go_sem, e0])
                    · refine grd_yes (j := 2) (b := true) rfl (hdep ⟨2, .guard⟩ (by simp) rfl) ?_
                      have e0 := slot_eq (hag 23 rfl)
                      have hq := (x23.keep hE).all.1
                      exact rel_pure _ rfl rfl (by simp [go_sem, e0, hq])
                    · refine grd_yes (j := 2) (b := true) rfl (hdep ⟨2, .guard⟩ (by simp) rfl) ?_
                      have e0 := slot_eq (hag 6 rfl)
                      have hq := (fa.1.keep hE).all.1
                      exact rel_pure _ rfl rfl (by simp [go_sem, e0, hq])
                    · refine grd_yes (j := 2) (b := true) rfl (hdep ⟨2, .guard⟩ (by simp) rfl) ?_
                      have e0 := slot_eq (hag 7 rfl)
                      have hq := (fb.1.keep hE).all.1
                      exact rel_pure _ rfl rfl (by simp [go_sem, e0, hq])
                    · refine grd_yes (j := 2) (b := true) rfl (hdep ⟨2, .guard⟩ (by simp) rfl) ?_
                      have e0 := slot_eq (hdep ⟨4, .data⟩ (by simp) rfl)
                      have e1 := slot_eq (hdep ⟨5, .data⟩ (by simp) rfl)
                      refine rel_call (f := 66) (args := #[.agg #[.int .i64 fx, .int .i64 fy, .int .i64 (fw : Int), .int .i64 (fh : Int), .slice (some ⟨g1, 0, none⟩) (4 * M) (4 * M)], .agg #[.int .i64 gx, .int .i64 gy, .int .i64 (gw : Int), .int .i64 (gh : Int), .slice (some ⟨g2, 0, none⟩) (4 * M2) (4 * M2)]]) (run_go_call Try.func66 (by kernel_rfl) (by kernel_rfl) _ _ _ _ _ _ _ _ _ _ (by simp [Act.eval, e0, e1])) rfl ?_
                      refine (ref_Paste fx fy gx gy fw fh gw gh i0 j0 i1 j1 cw ch g1 0 (4 * M) (4 * M) g2 0 (4 * M2) (4 * M2) zs zs2 wx (by omega) (by omega) (by omega) (by omega) (by omega) (by omega) (by omega) (by omega) (by omega) (by omega) (by omega) (by omega) (by omega) (by omega) (by omega) (by omega) Hm.out.1 (by rw [hd.out.2.2.1]) (Nat.le_refl _) hd.out.1 (fa.2.1.keep hE) (by rw [hd.out.2.2.2.2.2]) (Nat.le_refl _) hd.out.2.2.2.1 (fb.2.1.keep hE)).mono ?_
                      rintro e w' ⟨g, c, rfl, hcc, hg, hrd, hb⟩
                      rw [← hd.out.2.2.1] at hrd
                      exact ⟨_, rfl, ⟨g, c, by rw [hd.out.2.2.1], Nat.le_trans hE.size hg, hrd⟩, hb⟩
                    · refine grd_yes (j := 2) (b := true) rfl (hdep ⟨2, .guard⟩ (by simp) rfl) ?_
                      have e0 := slot_eq (hdep ⟨3, .data⟩ (by simp) rfl)
                      obtain ⟨g, c, e1, hg, hrd⟩ := hdep ⟨6, .data⟩ (by simp) rfl
                      have e1 := slot_eq e1
                      refine rel_call (f := 29) (args := #[.agg #[.int .i64 fx, .int .i64 fy, .int .i64 (fw : Int), .int .i64 (fh : Int), .slice (some ⟨gq, 0, none⟩) (4 * M) (4 * M)], .agg #[.int .i64 fx, .int .i64 fy, .int .i64 (fw : Int), .int .i64 (fh : Int), .slice (some ⟨g, 0, none⟩) (4 * M) c]]) (run_go_call Try.func29 (by kernel_rfl) (by kernel_rfl) _ _ _ _ _ _ _ _ _ _ (by simp [Act.eval, e0, e1])) rfl ?_
                      refine (ref_SameFrame _ _ _ _ _ _ _ _ _ _ _ _ wx (by omega) (madeL_len _ _) (rq.keep hE) hrd).mono ?_
                      rintro e w' ⟨rfl, hb⟩
                      exact ⟨_, rfl, rfl, hb⟩
                    · refine grd_none rfl ?_
                      have e0 := slot_eq (hdep ⟨2, .data⟩ (by simp) rfl)
                      have e1 := slot_eq (hdep ⟨7, .data⟩ (by simp) rfl)
                      exact rel_pure _ rfl rfl (by simp [go_sem, e0, e1])
                    · refine grd_none rfl ?_
                      have e0 := slot_eq (hdep ⟨8, .data⟩ (by simp) rfl)
                      exact rel_pure _ rfl rfl (by simp [go_sem, e0])
                    · refine grd_yes (j := 9) (b := true) rfl (hdep ⟨9, .guard⟩ (by simp) rfl) ?_
                      have e0 := slot_eq (hag 6 rfl)
                      have hq := (fa.1.keep hE).all.1
                      exact rel_pure _ rfl rfl (by simp [go_sem, e0, hq])
                    · refine grd_yes (j := 9) (b := true) rfl (hdep ⟨9, .guard⟩ (by simp) rfl) ?_
                      have e0 := slot_eq (hag 7 rfl)
                      have hq := (fb.1.keep hE).all.1
                      exact rel_pure _ rfl rfl (by simp [go_sem, e0, hq])
                    · refine grd_yes (j := 9) (b := true) rfl (hdep ⟨9, .guard⟩ (by simp) rfl) ?_
                      have e0 := slot_eq (hdep ⟨10, .data⟩ (by simp) rfl)
                      have e1 := slot_eq (hdep ⟨11, .data⟩ (by simp) rfl)
                      refine rel_call (f := 70) (args := #[.agg #[.int .i64 fx, .int .i64 fy, .int .i64 (fw : Int), .int .i64 (fh : Int), .slice (some ⟨g1, 0, none⟩) (4 * M) (4 * M)], .agg #[.int .i64 gx, .int .i64 gy, .int .i64 (gw : Int), .int .i64 (gh : Int), .slice (some ⟨g2, 0, none⟩) (4 * M2) (4 * M2)]]) (run_go_call Try.func70 (by kernel_rfl) (by kernel_rfl) _ _ _ _ _ _ _ _ _ _ (by simp [Act.eval, e0, e1])) rfl ?_
                      refine (frame_Same_off _ _ _ _ _ _ _ _ _ _ _ _ _ _ wx (fun hh => hne.out hh.1)).mono ?_
                      rintro e w' ⟨rfl, hb⟩
                      exact ⟨_, rfl, rfl, hb⟩
                    · refine grd_yes (j := 9) (b := true) rfl (hdep ⟨9, .guard⟩ (by simp) rfl) ?_
                      have e0 := slot_eq (hag 6 rfl)
                      have hq := (fa.1.keep hE).all.1
                      exact rel_pure _ rfl rfl (by simp [go_sem, e0, hq])
                    · refine grd_yes (j := 9) (b := true) rfl (hdep ⟨9, .guard⟩ (by simp) rfl) ?_
                      have e0 := slot_eq (hag 7 rfl)
                      have hq := (fb.1.keep hE).all.1
                      exact rel_pure _ rfl rfl (by simp [go_sem, e0, hq])
                    · refine grd_yes (j := 9) (b := true) rfl (hdep ⟨9, .guard⟩ (by simp) rfl) ?_
                      have e0 := slot_eq (hdep ⟨13, .data⟩ (by simp) rfl)
                      have e1 := slot_eq (hdep ⟨14, .data⟩ (by simp) rfl)
                      refine rel_call (f := 71) (args := #[.agg #[.int .i64 fx, .int .i64 fy, .int .i64 (fw : Int), .int .i64 (fh : Int), .slice (some ⟨g1, 0, none⟩) (4 * M) (4 * M)], .agg #[.int .i64 gx, .int .i64 gy, .int .i64 (gw : Int), .int .i64 (gh : Int), .slice (some ⟨g2, 0, none⟩) (4 * M2) (4 * M2)]]) (run_go_call Try.func71 (by kernel_rfl) (by kernel_rfl) _ _ _ _ _ _ _ _ _ _ (by simp [Act.eval, e0, e1])) rfl ?_
                      refine (ref_Same_off _ _ _ _ _ _ _ _ _ _ _ _ _ _ wx (fun hh => hne.out hh.1)).mono ?_
                      rintro e w' ⟨rfl, hb⟩
                      exact ⟨_, rfl, rfl, hb⟩
                    · refine grd_yes (j := 9) (b := true) rfl (hdep ⟨9, .guard⟩ (by simp) rfl) ?_
                      have e0 := slot_eq (hdep ⟨12, .data⟩ (by simp) rfl)
                      have e1 := slot_eq (hdep ⟨15, .data⟩ (by simp) rfl)
                      exact rel_pure _ rfl rfl (by simp [go_sem, e0, e1])
                    · refine grd_none rfl ?_
                      have e0 := slot_eq (hdep ⟨9, .data⟩ (by simp) rfl)
                      have e1 := slot_eq (hdep ⟨16, .data⟩ (by simp) rfl)
                      exact rel_pure _ rfl rfl (by simp [go_sem, e0, e1])
                  · intro t op ht hlt; cases hlt
                  · intro vs wv2 hE hvs _
                    have k17 : vs 17 = .bool true := hvs 17 (by omega)
                    simp only [List.drop_succ_cons, List.drop_zero, putAll, dstAt, List.getElem?_toArray, List.getElem?_cons_zero, List.getElem?_cons_succ, Option.bind_some, Act.put, List.setIfInBounds_toArray, List.set_cons_zero, List.set_cons_succ, k17]
                    clear hvs k17
                    replace fa := fa.keep hE
                    replace fb := fb.keep hE
                    replace xR := xR.keep hE
                    replace xP := xP.keep hE
                    replace B := B.trans (hE.mono B.size)
                    clear hE x23 x24 rq hgq
                    go_wp2_with fail
                    go_ret
                    exact ⟨rfl, B⟩
              · have Hm := Lib.hid hcm
                clear hcm
                refine (frame_Paste_place fx fy gx gy fw fh gw gh g1 0 (4 * M) (4 * M) g2 0 (4 * M2) (4 * M2) zs zs2 _ fa.chk fa.reg fb.chk fb.reg (by rw [hd.out.2.2.1]) hd.out.1 fa.2.1 (by rw [hd.out.2.2.2.2.2]) hd.out.2.2.2.1 fb.2.1 Hm.out).mono ?_
                rintro e wv ⟨rfl, hb⟩
                clear q0 f0 l0 q1 f1 l1 q2 f2 l2 q3 f3 l3
                replace fa := fa.keep hb
                replace fb := fb.keep hb
                replace xR := xR.keep hb
                replace xP := xP.keep hb
                replace B := bcall B hb
                clear hb
                obtain ⟨q0, f0, l0⟩ := fa.1.all
                obtain ⟨q1, f1, l1⟩ := fb.1.all
                obtain ⟨q2, f2, l2⟩ := xR.all
                obtain ⟨q3, f3, l3⟩ := xP.all
                go_wp2_with fail
                refine nm_call ?_
                intro wn hwn
                have x23 : Bx wn wv.heap.size 26 #[.int .i64 0, .int .i64 0, .int .i64 0, .int .i64 0, .slice none 0 0] := by rw [hwn]; exact Bx.new _ _ _
                have hb : Below wv.heap.size wv wn := by rw [hwn]; exact bnew (Below.refl _ _)
                clear q0 f0 l0 q1 f1 l1 q2 f2 l2 q3 f3 l3
                replace fa := fa.keep hb
                replace fb := fb.keep hb
                replace xR := xR.keep hb
                replace xP := xP.keep hb
                replace B := bcall B hb
                clear hwn hb
                generalize wv.heap.size = p23 at *
                refine (ref_Common_at _ _ _ _ _ _ _ _ _ _ _ _ _ Hm.out _ (by omega) (by omega) (by omega) (by omega) (by omega) (by omega) (by omega) (by omega) (by omega) (by omega) (by omega) (by omega) (by omega) (by omega) (by omega) (by omega)).mono ?_
                rintro e wv ⟨rfl, hb⟩
                replace fa := fa.keep hb
                replace fb := fb.keep hb
                replace xR := xR.keep hb
                replace xP := xP.keep hb
                replace x23 := x23.keep hb
                replace B := bcall B hb
                clear hb
                obtain ⟨q0, f0, l0⟩ := fa.1.all
                obtain ⟨q1, f1, l1⟩ := fb.1.all
                obtain ⟨q2, f2, l2⟩ := xR.all
                obtain ⟨q3, f3, l3⟩ := xP.all
                obtain ⟨q4, f4, l4⟩ := x23.all
                go_wp2_with fail
                go_ret
                exact ⟨rfl, bnew B⟩
            · obtain ⟨c1, c2, c3, c4, _⟩ := checkRegion_zero hk.out
              obtain ⟨rwN, rfl⟩ := Int.eq_ofNat_of_zero_le (show 0 ≤ rw_ by omega)
              obtain ⟨rhN, rfl⟩ := Int.eq_ofNat_of_zero_le (show 0 ≤ rh by omega)
              obtain ⟨ii, jj, hij2⟩ : ∃ ii jj : Nat, Hid (rx = fx + ii ∧ ry = fy + jj ∧ ii + rwN ≤ fw ∧ jj + rhN ≤ fh) := by
                unfold inB at hI2
                simp only [Bool.and_eq_true, decide_eq_true_eq] at hI2
                exact ⟨(rx - fx).toNat, (ry - fy).toNat, Lib.hid ⟨by omega, by omega, by omega, by omega⟩⟩
              have hi2 := Lib.hid hI2
              clear hI2
              refine (frame_Cut_ok fx fy rx ry fw fh rwN rhN ii jj g1 0 (4 * M) (4 * M) zs _ fa.chk fa.reg hk.out (by rw [hd.out.2.2.1]) hd.out.1 fa.2.1 hij2.out.1 hij2.out.2.1 hij2.out.2.2.1 hij2.out.2.2.2).mono ?_
              rintro e wv ⟨gt, rfl, hgt, rowt, hb⟩
              clear q0 f0 l0 q1 f1 l1 q2 f2 l2 q3 f3 l3
              replace fa := fa.keep hb
              replace fb := fb.keep hb
              replace xR := xR.keep hb
              replace xP := xP.keep hb
              replace B := bcall B hb
              clear hb
              have rt := rowt.rd
              clear rowt
              have hx22 : W.heap.size + 1 + 1 + 1 < wv.heap.size := xP.lt
              obtain ⟨q0, f0, l0⟩ := fa.1.all
              obtain ⟨q1, f1, l1⟩ := fb.1.all
              obtain ⟨q2, f2, l2⟩ := xR.all
              obtain ⟨q3, f3, l3⟩ := xP.all
              go_wp2_with fail
              refine nm_call ?_
              intro wn hwn
              have x22 : Bx wn wv.heap.size 26 #[.int .i64 rx, .int .i64 ry, .int .i64 (rwN : Int), .int .i64 (rhN : Int), .slice (some ⟨gt, 0, none⟩) (4 * (rwN * rhN)) (4 * (rwN * rhN))] := by rw [hwn]; exact Bx.new _ _ _
              have hb : Below wv.heap.size wv wn := by rw [hwn]; exact bnew (Below.refl _ _)
              clear q0 f0 l0 q1 f1 l1 q2 f2 l2 q3 f3 l3
              replace fa := fa.keep hb
              replace fb := fb.keep hb
              replace xR := xR.keep hb
              replace xP := xP.keep hb
              replace rt := rt.keep hb
              replace B := bcall B hb
              clear hwn hb
              generalize wv.heap.size = p22 at *
              refine (ref_Inside_is _ _ _ _ _ _ _ _ true hi2.out _ (by omega) (by omega) (by omega) (by omega) (by omega) (by omega) (by omega) (by omega) (by omega) (by omega) (by omega) (by omega)).mono ?_
              rintro e wv ⟨rfl, hb⟩
              replace fa := fa.keep hb
              replace fb := fb.keep hb
              replace xR := xR.keep hb
              replace xP := xP.keep hb
              replace x22 := x22.keep hb
              replace rt := rt.keep hb
              replace B := bcall B hb
              clear hb
              obtain ⟨q0, f0, l0⟩ := fa.1.all
              obtain ⟨q1, f1, l1⟩ := fb.1.all
              obtain ⟨q2, f2, l2⟩ := xR.all
              obtain ⟨q3, f3, l3⟩ := xP.all
              obtain ⟨q4, f4, l4⟩ := x22.all
              go_wp2_with fail
              clear q0 f0 l0 q1 f1 l1 q2 f2 l2 q3 f3 l3 q4 f4 l4
              refine wp_region_grd 9 (fun _ => false) (fun q u w' => if q = 6 then ∃ g c, u = .agg #[.int .i64 rx, .int .i64 ry, .int .i64 (rwN : Int), .int .i64 (rhN : Int), .slice (some ⟨g, 0, none⟩) (4 * (rwN * rhN)) c] ∧ wv.heap.size ≤ g ∧ Rd w' g 0 (madeL (cutP zs rwN fw ii jj) (4 * (rwN * rhN))) else u = [.int .i64 0, .bool false, .bool false, .agg #[.int .i64 rx, .int .i64 ry, .int .i64 (rwN : Int), .int .i64 (rhN : Int), .slice (some ⟨gt, 0, none⟩) (4 * (rwN * rhN)) (4 * (rwN * rhN))], .agg #[.int .i64 fx, .int .i64 fy, .int .i64 (fw : Int), .int .i64 (fh : Int), .slice (some ⟨g1, 0, none⟩) (4 * M) (4 * M)], .agg #[.int .i64 rx, .int .i64 ry, .int .i64 (rwN : Int), .int .i64 (rhN : Int)], undef, .bool true, .bool false].getD q undef) (fun _ => false) (fun w' => Below wv.heap.size wv w') (by kernel_rfl) (by kernel_rfl) (fun _ _ _ _ _ h => h)
                (fun _ _ h e => e.trans (h.mono e.size)) (fun t u a' b' hb h => ?_) (Below.refl _ _).drew ?_ ?_ ?_
              · split
                · rename_i h4
                  rw [if_pos h4] at h
                  obtain ⟨g, c, e1, e2, e3⟩ := h
                  exact ⟨g, c, e1, e2, e3.keep hb⟩
                · rename_i h4
                  rw [if_neg h4] at h
                  exact h
              · intro t op ht hlt hop
                clear hlt
                rcases (by omega : t = 0 ∨ t = 1 ∨ t = 2 ∨ t = 3 ∨ t = 4 ∨ t = 5 ∨ t = 6 ∨ t = 7 ∨ t = 8) with rfl | rfl | rfl | rfl | rfl | rfl | rfl | rfl | rfl
                all_goals simp only [List.getElem?_cons_zero, List.getElem?_cons_succ, Option.some.injEq] at hop
                all_goals subst hop
                all_goals intro a wx hE hag hdep
                · refine grd_none rfl ?_
                  have e0 := slot_eq (hag 14 rfl)
                  exact rel_pure _ rfl rfl (by simp [go_sem, e0])
                · refine grd_none rfl ?_
                  have e0 := slot_eq (hdep ⟨0, .data⟩ (by simp) rfl)
                  exact rel_pure _ rfl rfl (by simp [go_sem, e0])
                · refine grd_none rfl ?_
                  have e0 := slot_eq (hdep ⟨1, .data⟩ (by simp) rfl)
                  exact rel_pure _ rfl rfl (by simp [go_sem, e0])
                · refine grd_yes (j := 2) (b := false) rfl (hdep ⟨2, .guard⟩ (by simp) rfl) ?_
                  have e0 := slot_eq (hag 22 rfl)
                  have hq := (x22.keep hE).all.1
                  exact rel_pure _ rfl rfl (by simp [go_sem, e0, hq])
                · refine grd_yes (j := 2) (b := false) rfl (hdep ⟨2, .guard⟩ (by simp) rfl) ?_
                  have e0 := slot_eq (hag 6 rfl)
                  have hq := (fa.1.keep hE).all.1
                  exact rel_pure _ rfl rfl (by simp [go_sem, e0, hq])
                · refine grd_yes (j := 2) (b := false) rfl (hdep ⟨2, .guard⟩ (by simp) rfl) ?_
                  have e0 := slot_eq (hag 8 rfl)
                  have hq := (xR.keep hE).all.1
                  exact rel_pure _ rfl rfl (by simp [go_sem, e0, hq])
                · refine grd_yes (j := 2) (b := false) rfl (hdep ⟨2, .guard⟩ (by simp) rfl) ?_
                  have e0 := slot_eq (hdep ⟨4, .data⟩ (by simp) rfl)
                  have e1 := slot_eq (hdep ⟨5, .data⟩ (by simp) rfl)
                  refine rel_call (f := 68) (args := #[.agg #[.int .i64 fx, .int .i64 fy, .int .i64 (fw : Int), .int .i64 (fh : Int), .slice (some ⟨g1, 0, none⟩) (4 * M) (4 * M)], .agg #[.int .i64 rx, .int .i64 ry, .int .i64 (rwN : Int), .int .i64 (rhN : Int)]]) (run_go_call Try.func68 (by kernel_rfl) (by kernel_rfl) _ _ _ _ _ _ _ _ _ _ (by simp [Act.eval, e0, e1])) rfl ?_
                  refine (ref_Cut fx fy rx ry fw fh rwN rhN ii jj g1 0 (4 * M) (4 * M) zs wx (by omega) (by omega) (by omega) (by omega) (by omega) (by omega) (by omega) (by omega) (by rw [hd.out.2.2.1]) (Nat.le_refl _) hd.out.1 (fa.2.1.keep hE) hij2.out.1 hij2.out.2.1 (by omega) hij2.out.2.2.1 (by omega) hij2.out.2.2.2).mono ?_
                  rintro e w' ⟨g, c, rfl, hcc, hg, hrd, hb⟩
                  exact ⟨_, rfl, ⟨g, c, rfl, Nat.le_trans hE.size hg, hrd⟩, hb⟩
                · refine grd_yes (j := 2) (b := false) rfl (hdep ⟨2, .guard⟩ (by simp) rfl) ?_
                  have e0 := slot_eq (hdep ⟨3, .data⟩ (by simp) rfl)
                  obtain ⟨g, c, e1, hg, hrd⟩ := hdep ⟨6, .data⟩ (by simp) rfl
                  have e1 := slot_eq e1
                  refine rel_call (f := 29) (args := #[.agg #[.int .i64 rx, .int .i64 ry, .int .i64 (rwN : Int), .int .i64 (rhN : Int), .slice (some ⟨gt, 0, none⟩) (4 * (rwN * rhN)) (4 * (rwN * rhN))], .agg #[.int .i64 rx, .int .i64 ry, .int .i64 (rwN : Int), .int .i64 (rhN : Int), .slice (some ⟨g, 0, none⟩) (4 * (rwN * rhN)) c]]) (run_go_call Try.func29 (by kernel_rfl) (by kernel_rfl) _ _ _ _ _ _ _ _ _ _ (by simp [Act.eval, e0, e1])) rfl ?_
                  refine (ref_SameFrame _ _ _ _ _ _ _ _ _ _ _ _ wx (by have := Nat.mul_le_mul (show rwN ≤ 256 by omega) (show rhN ≤ 256 by omega); omega) (madeL_len _ _) (rt.keep hE) hrd).mono ?_
                  rintro e w' ⟨rfl, hb⟩
                  exact ⟨_, rfl, rfl, hb⟩
                · refine grd_yes (j := 2) (b := false) rfl (hdep ⟨2, .guard⟩ (by simp) rfl) ?_
                  have e0 := slot_eq (hdep ⟨7, .data⟩ (by simp) rfl)
                  exact rel_pure _ rfl rfl (by simp [go_sem, e0])
              · intro t op ht hlt; cases hlt
              · intro vs wv2 hE hvs _
                have k2 : vs 2 = .bool false := hvs 2 (by omega)
                have k8 : vs 8 = .bool false := hvs 8 (by omega)
                simp only [List.drop_succ_cons, List.drop_zero, putAll, dstAt, List.getElem?_toArray, List.getElem?_cons_zero, List.getElem?_cons_succ, Option.bind_some, Act.put, List.setIfInBounds_toArray, List.set_cons_zero, List.set_cons_succ, k2, k8]
                clear hvs k2 k8
                replace fa := fa.keep hE
                replace fb := fb.keep hE
                replace xR := xR.keep hE
                replace xP := xP.keep hE
                replace B := B.trans (hE.mono B.size)
                clear hE x22 rt hgt
                obtain ⟨q0, f0, l0⟩ := fa.1.all
                obtain ⟨q1, f1, l1⟩ := fb.1.all
                obtain ⟨q2, f2, l2⟩ := xR.all
                obtain ⟨q3, f3, l3⟩ := xP.all
                go_wp2_with fail
                rcases common_meet fx fy fw fh gx gy gw gh (by omega) (by omega) (by omega) (by omega) with ⟨i0, j0, i1, j1, cw, ch, hm, hcm⟩ | ⟨hcm, _⟩
                · have Hm := Lib.hid (And.intro hm hcm)
                  clear hm hcm
                  refine (frame_Paste_ok fx fy gx gy fw fh gw gh g1 0 (4 * M) (4 * M) g2 0 (4 * M2) (4 * M2) zs zs2 _ fa.chk fa.reg fb.chk fb.reg (by rw [hd.out.2.2.1]) hd.out.1 fa.2.1 (by rw [hd.out.2.2.2.2.2]) hd.out.2.2.2.1 fb.2.1 i0 j0 i1 j1 cw ch Hm.out.1 Hm.out.2).mono ?_
                  rintro e wv ⟨gq, rfl, hgq, rowq, hb⟩
                  clear q0 f0 l0 q1 f1 l1 q2 f2 l2 q3 f3 l3
                  replace fa := fa.keep hb
                  replace fb := fb.keep hb
                  replace xR := xR.keep hb
                  replace xP := xP.keep hb
                  replace B := bcall B hb
                  clear hb
                  have rq := rowq.rd
                  clear rowq
                  have hx23 : W.heap.size + 1 + 1 + 1 < wv.heap.size := xP.lt
                  obtain ⟨q0, f0, l0⟩ := fa.1.all
                  obtain ⟨q1, f1, l1⟩ := fb.1.all
                  obtain ⟨q2, f2, l2⟩ := xR.all
                  obtain ⟨q3, f3, l3⟩ := xP.all
                  go_wp2_with fail
                  refine nm_call ?_
                  intro wn hwn
                  have x23 : Bx wn wv.heap.size 26 #[.int .i64 fx, .int .i64 fy, .int .i64 (fw : Int), .int .i64 (fh : Int), .slice (some ⟨gq, 0, none⟩) (4 * M) (4 * M)] := by rw [hwn]; exact Bx.new _ _ _
                  have hb : Below wv.heap.size wv wn := by rw [hwn]; exact bnew (Below.refl _ _)
                  clear q0 f0 l0 q1 f1 l1 q2 f2 l2 q3 f3 l3
                  replace fa := fa.keep hb
                  replace fb := fb.keep hb
                  replace xR := xR.keep hb
                  replace xP := xP.keep hb
                  replace rq := rq.keep hb
                  replace B := bcall B hb
                  clear hwn hb
                  generalize wv.heap.size = p23 at *
                  refine (ref_Common_at _ _ _ _ _ _ _ _ _ _ _ _ _ Hm.out.2 _ (by omega) (by omega) (by omega) (by omega) (by omega) (by omega) (by omega) (by omega) (by omega) (by omega) (by omega) (by omega) (by omega) (by omega) (by omega) (by omega)).mono ?_
                  rintro e wv ⟨rfl, hb⟩
                  replace fa := fa.keep hb
                  replace fb := fb.keep hb
                  replace xR := xR.keep hb
                  replace xP := xP.keep hb
                  replace x23 := x23.keep hb
                  replace rq := rq.keep hb
                  replace B := bcall B hb
                  clear hb
                  have hx24 : p23 < wv.heap.size := x23.lt
                  obtain ⟨q0, f0, l0⟩ := fa.1.all
                  obtain ⟨q1, f1, l1⟩ := fb.1.all
                  obtain ⟨q2, f2, l2⟩ := xR.all
                  obtain ⟨q3, f3, l3⟩ := xP.all
                  obtain ⟨q4, f4, l4⟩ := x23.all
                  go_wp2_with fail
                  refine name_world ?_
                  intro wn hwn
                  have x24 : Bx wn wv.heap.size 23 #[.int .i64 (fx + i0), .int .i64 (fy + j0), .int .i64 (cw : Int), .int .i64 (ch : Int)] := by rw [hwn]; exact Bx.new _ _ _
                  have hb : Below wv.heap.size wv wn := by rw [hwn]; exact bnew (Below.refl _ _)
                  clear q0 f0 l0 q1 f1 l1 q2 f2 l2 q3 f3 l3 q4 f4 l4
                  replace fa := fa.keep hb
                  replace fb := fb.keep hb
                  replace xR := xR.keep hb
                  replace xP := xP.keep hb
                  replace x23 := x23.keep hb
                  replace rq := rq.keep hb
                  replace B := bcall B hb
                  clear hwn hb
                  generalize wv.heap.size = p24 at *
                  by_cases heq : fx = gx ∧ fy = gy ∧ fw = gw ∧ fh = gh
                  · obtain ⟨rfl, rfl, rfl, rfl⟩ := heq
                    obtain rfl : M = M2 := by rw [hd.out.2.2.1, hd.out.2.2.2.2.2]
                    refine wp_region_grd 18 (fun _ => false) (fun q u w' => if q = 6 then ∃ g c, u = .agg #[.int .i64 fx, .int .i64 fy, .int .i64 (fw : Int), .int .i64 (fh : Int), .slice (some ⟨g, 0, none⟩) (4 * M) c] ∧ wn.heap.size ≤ g ∧ Rd w' g 0 (madeL (pasteP zs zs2 fw fw i0 j0 i1 j1 cw ch) (4 * M)) else u = [.int .i64 0, .bool true, .bool true, .agg #[.int .i64 fx, .int .i64 fy, .int .i64 (fw : Int), .int .i64 (fh : Int), .slice (some ⟨gq, 0, none⟩) (4 * M) (4 * M)], .agg #[.int .i64 fx, .int .i64 fy, .int .i64 (fw : Int), .int .i64 (fh : Int), .slice (some ⟨g1, 0, none⟩) (4 * M) (4 * M)], .agg #[.int .i64 fx, .int .i64 fy, .int .i64 (fw : Int), .int .i64 (fh : Int), .slice (some ⟨g2, 0, none⟩) (4 * M) (4 * M)], undef, .bool true, .bool true, .bool true, .agg #[.int .i64 fx, .int .i64 fy, .int .i64 (fw : Int), .int .i64 (fh : Int), .slice (some ⟨g1, 0, none⟩) (4 * M) (4 * M)], .agg #[.int .i64 fx, .int .i64 fy, .int .i64 (fw : Int), .int .i64 (fh : Int), .slice (some ⟨g2, 0, none⟩) (4 * M) (4 * M)], .bool (allSame (4 * M) zs zs2), .agg #[.int .i64 fx, .int .i64 fy, .int .i64 (fw : Int), .int .i64 (fh : Int), .slice (some ⟨g1, 0, none⟩) (4 * M) (4 * M)], .agg #[.int .i64 fx, .int .i64 fy, .int .i64 (fw : Int), .int .i64 (fh : Int), .slice (some ⟨g2, 0, none⟩) (4 * M) (4 * M)], .bool (allSame (4 * M) zs zs2), .bool true, .bool true].getD q undef) (fun _ => false) (fun w' => Below wn.heap.size wn w') (by kernel_rfl) (by kernel_rfl) (fun _ _ _ _ _ h => h)
                      (fun _ _ h e => e.trans (h.mono e.size)) (fun t u a' b' hb h => ?_) (Below.refl _ _).drew ?_ ?_ ?_
                    · split
                      · rename_i h4
                        rw [if_pos h4] at h
                        obtain ⟨g, c, e1, e2, e3⟩ := h
                        exact ⟨g, c, e1, e2, e3.keep hb⟩
                      · rename_i h4
                        rw [if_neg h4] at h
                        exact h
                    · intro t op ht hlt hop
                      clear hlt
                      rcases (by omega : t = 0 ∨ t = 1 ∨ t = 2 ∨ t = 3 ∨ t = 4 ∨ t = 5 ∨ t = 6 ∨ t = 7 ∨ t = 8 ∨ t = 9 ∨ t = 10 ∨ t = 11 ∨ t = 12 ∨ t = 13 ∨ t = 14 ∨ t = 15 ∨ t = 16 ∨ t = 17) with rfl | rfl | rfl | rfl | rfl | rfl | rfl | rfl | rfl | rfl | rfl | rfl | rfl | rfl | rfl | rfl | rfl | rfl
                      all_goals simp only [List.getElem?_cons_zero, List.getElem?_cons_succ, Option.some.injEq] at hop
                      all_goals subst hop
                      all_goals intro a wx hE hag hdep
                      · refine grd_none rfl ?_
                        have e0 := slot_eq (hag 14 rfl)
                        exact rel_pure _ rfl rfl (by simp [go_sem, e0])
                      · refine grd_none rfl ?_
                        have e0 := slot_eq (hdep ⟨0, .data⟩ (by simp) rfl)
                        exact rel_pure _ rfl rfl (by simp [go_sem, e0])
                      · refine grd_none rfl ?_
                        have e0 := slot_eq (hdep ⟨1, .data⟩ (by simp) rfl)
                        exact rel_pure _ rfl rfl (by simp [go_sem, e0])
                      · refine grd_yes (j := 2) (b := true) rfl (hdep ⟨2, .guard⟩ (by simp) rfl) ?_
                        have e0 := slot_eq (hag 23 rfl)
                        have hq := (x23.keep hE).all.1
                        exact rel_pure _ rfl rfl (by simp [go_sem, e0, hq])
                      · refine grd_yes (j := 2) (b := true) rfl (hdep ⟨2, .guard⟩ (by simp) rfl) ?_
                        have e0 := slot_eq (hag 6 rfl)
                        have hq := (fa.1.keep hE).all.1
                        exact rel_pure _ rfl rfl (by simp [go_sem, e0, hq])
                      · refine grd_yes (j := 2) (b := true) rfl (hdep ⟨2, .guard⟩ (by simp) rfl) ?_
                        have e0 := slot_eq (hag 7 rfl)
                        have hq := (fb.1.keep hE).all.1
                        exact rel_pure _ rfl rfl (by simp [go_sem, e0, hq])
                      · refine grd_yes (j := 2) (b := true) rfl (hdep ⟨2, .guard⟩ (by simp) rfl) ?_
                        have e0 := slot_eq (hdep ⟨4, .data⟩ (by simp) rfl)
                        have e1 := slot_eq (hdep ⟨5, .data⟩ (by simp) rfl)
                        refine rel_call (f := 66) (args := #[.agg #[.int .i64 fx, .int .i64 fy, .int .i64 (fw : Int), .int .i64 (fh : Int), .slice (some ⟨g1, 0, none⟩) (4 * M) (4 * M)], .agg #[.int .i64 fx, .int .i64 fy, .int .i64 (fw : Int), .int .i64 (fh : Int), .slice (some ⟨g2, 0, none⟩) (4 * M) (4 * M)]]) (run_go_call Try.func66 (by kernel_rfl) (by kernel_rfl) _ _ _ _ _ _ _ _ _ _ (by simp [Act.eval, e0, e1])) rfl ?_
                        refine (ref_Paste fx fy fx fy fw fh fw fh i0 j0 i1 j1 cw ch g1 0 (4 * M) (4 * M) g2 0 (4 * M) (4 * M) zs zs2 wx (by omega) (by omega) (by omega) (by omega) (by omega) (by omega) (by omega) (by omega) (by omega) (by omega) (by omega) (by omega) (by omega) (by omega) (by omega) (by omega) Hm.out.1 (by rw [hd.out.2.2.1]) (Nat.le_refl _) hd.out.1 (fa.2.1.keep hE) (by rw [hd.out.2.2.2.2.2]) (Nat.le_refl _) hd.out.2.2.2.1 (fb.2.1.keep hE)).mono ?_
                        rintro e w' ⟨g, c, rfl, hcc, hg, hrd, hb⟩
                        rw [← hd.out.2.2.1] at hrd
                        exact ⟨_, rfl, ⟨g, c, by rw [hd.out.2.2.1], Nat.le_trans hE.size hg, hrd⟩, hb⟩
                      · refine grd_yes (j := 2) (b := true) rfl (hdep ⟨2, .guard⟩ (by simp) rfl) ?_
                        have e0 := slot_eq (hdep ⟨3, .data⟩ (by simp) rfl)
                        obtain ⟨g, c, e1, hg, hrd⟩ := hdep ⟨6, .data⟩ (by simp) rfl
                        have e1 := slot_eq e1
                        refine rel_call (f := 29) (args := #[.agg #[.int .i64 fx, .int .i64 fy, .int .i64 (fw : Int), .int .i64 (fh : Int), .slice (some ⟨gq, 0, none⟩) (4 * M) (4 * M)], .agg #[.int .i64 fx, .int .i64 fy, .int .i64 (fw : Int), .int .i64 (fh : Int), .slice (some ⟨g, 0, none⟩) (4 * M) c]]) (run_go_call Try.func29 (by kernel_rfl) (by kernel_rfl) _ _ _ _ _ _ _ _ _ _ (by simp [Act.eval, e0, e1])) rfl ?_
                        refine (ref_SameFrame _ _ _ _ _ _ _ _ _ _ _ _ wx (by omega) (madeL_len _ _) (rq.keep hE) hrd).mono ?_
                        rintro e w' ⟨rfl, hb⟩
                        exact ⟨_, rfl, rfl, hb⟩
                      · refine grd_none rfl ?_
                        have e0 := slot_eq (hdep ⟨2, .data⟩ (by simp) rfl)
                        have e1 := slot_eq (hdep ⟨7, .data⟩ (by simp) rfl)
                        exact rel_pure _ rfl rfl (by simp [go_sem, e0, e1])
                      · refine grd_none rfl ?_
                        have e0 := slot_eq (hdep ⟨8, .data⟩ (by simp) rfl)
                        exact rel_pure _ rfl rfl (by simp [go_sem, e0])
                      · refine grd_yes (j := 9) (b := true) rfl (hdep ⟨9, .guard⟩ (by simp) rfl) ?_
                        have e0 := slot_eq (hag 6 rfl)
                        have hq := (fa.1.keep hE).all.1
                        exact rel_pure _ rfl rfl (by simp [go_sem, e0, hq])
                      · refine grd_yes (j := 9) (b := true) rfl (hdep ⟨9, .guard⟩ (by simp) rfl) ?_
                        have e0 := slot_eq (hag 7 rfl)
                        have hq := (fb.1.keep hE).all.1
                        exact rel_pure _ rfl rfl (by simp [go_sem, e0, hq])
                      · refine grd_yes (j := 9) (b := true) rfl (hdep ⟨9, .guard⟩ (by simp) rfl) ?_
                        have e0 := slot_eq (hdep ⟨10, .data⟩ (by simp) rfl)
                        have e1 := slot_eq (hdep ⟨11, .data⟩ (by simp) rfl)
                        refine rel_call (f := 70) (args := #[.agg #[.int .i64 fx, .int .i64 fy, .int .i64 (fw : Int), .int .i64 (fh : Int), .slice (some ⟨g1, 0, none⟩) (4 * M) (4 * M)], .agg #[.int .i64 fx, .int .i64 fy, .int .i64 (fw : Int), .int .i64 (fh : Int), .slice (some ⟨g2, 0, none⟩) (4 * M) (4 * M)]]) (run_go_call Try.func70 (by kernel_rfl) (by kernel_rfl) _ _ _ _ _ _ _ _ _ _ (by simp [Act.eval, e0, e1])) rfl ?_
                        refine (frame_Same_in _ _ _ _ _ _ _ _ _ _ _ zs zs2 wx (by omega) hd.out.1 hd.out.2.2.2.1 (fa.2.1.keep hE) (fb.2.1.keep hE)).mono ?_
                        rintro e w' ⟨rfl, hb⟩
                        exact ⟨_, rfl, rfl, hb⟩
                      · refine grd_yes (j := 9) (b := true) rfl (hdep ⟨9, .guard⟩ (by simp) rfl) ?_
                        have e0 := slot_eq (hag 6 rfl)
                        have hq := (fa.1.keep hE).all.1
                        exact rel_pure _ rfl rfl (by simp [go_sem, e0, hq])
                      · refine grd_yes (j := 9) (b := true) rfl (hdep ⟨9, .guard⟩ (by simp) rfl) ?_
                        have e0 := slot_eq (hag 7 rfl)
                        have hq := (fb.1.keep hE).all.1
                        exact rel_pure _ rfl rfl (by simp [go_sem, e0, hq])
                      · refine grd_yes (j := 9) (b := true) rfl (hdep ⟨9, .guard⟩ (by simp) rfl) ?_
                        have e0 := slot_eq (hdep ⟨13, .data⟩ (by simp) rfl)
                        have e1 := slot_eq (hdep ⟨14, .data⟩ (by simp) rfl)
                        refine rel_call (f := 71) (args := #[.agg #[.int .i64 fx, .int .i64 fy, .int .i64 (fw : Int), .int .i64 (fh : Int), .slice (some ⟨g1, 0, none⟩) (4 * M) (4 * M)], .agg #[.int .i64 fx, .int .i64 fy, .int .i64 (fw : Int), .int .i64 (fh : Int), .slice (some ⟨g2, 0, none⟩) (4 * M) (4 * M)]]) (run_go_call Try.func71 (by kernel_rfl) (by kernel_rfl) _ _ _ _ _ _ _ _ _ _ (by simp [Act.eval, e0, e1])) rfl ?_
                        refine (ref_Same_in _ _ _ _ _ _ _ _ _ _ _ zs zs2 wx (by omega) hd.out.1 hd.out.2.2.2.1 (fa.2.1.keep hE) (fb.2.1.keep hE)).mono ?_
                        rintro e w' ⟨rfl, hb⟩
                        exact ⟨_, rfl, rfl, hb⟩
                      · refine grd_yes (j := 9) (b := true) rfl (hdep ⟨9, .guard⟩ (by simp) rfl) ?_
                        have e0 := slot_eq (hdep ⟨12, .data⟩ (by simp) rfl)
                        have e1 := slot_eq (hdep ⟨15, .data⟩ (by simp) rfl)
                        exact rel_pure _ rfl rfl (by simp [go_sem, e0, e1])
                      · refine grd_none rfl ?_
                        have e0 := slot_eq (hdep ⟨9, .data⟩ (by simp) rfl)
                        have e1 := slot_eq (hdep ⟨16, .data⟩ (by simp) rfl)
                        exact rel_pure _ rfl rfl (by simp [go_sem, e0, e1])
                    · intro t op ht hlt; cases hlt
                    · intro vs wv2 hE hvs _
                      have k17 : vs 17 = .bool true := hvs 17 (by omega)
                      simp only [List.drop_succ_cons, List.drop_zero, putAll, dstAt, List.getElem?_toArray, List.getElem?_cons_zero, List.getElem?_cons_succ, Option.bind_some, Act.put, List.setIfInBounds_toArray, List.set_cons_zero, List.set_cons_succ, k17]
                      clear hvs k17
                      replace fa := fa.keep hE
                      replace fb := fb.keep hE
                      replace xR := xR.keep hE
                      replace xP := xP.keep hE
                      replace B := B.trans (hE.mono B.size)
                      clear hE x23 x24 rq hgq
                      go_wp2_with fail
                      go_ret
                      exact ⟨rfl, B⟩
                  · have hne : Hid (¬ (fx = gx ∧ fy = gy ∧ (fw : Int) = gw ∧ (fh : Int) = gh)) := Lib.hid (fun hh => heq ⟨hh.1, hh.2.1, by omega, by omega⟩)
                    clear heq
                    refine wp_region_grd 18 (fun _ => false) (fun q u w' => if q = 6 then ∃ g c, u = .agg #[.int .i64 fx, .int .i64 fy, .int .i64 (fw : Int), .int .i64 (fh : Int), .slice (some ⟨g, 0, none⟩) (4 * M) c] ∧ wn.heap.size ≤ g ∧ Rd w' g 0 (madeL (pasteP zs zs2 fw gw i0 j0 i1 j1 cw ch) (4 * M)) else u = [.int .i64 0, .bool true, .bool true, .agg #[.int .i64 fx, .int .i64 fy, .int .i64 (fw : Int), .int .i64 (fh : Int), .slice (some ⟨gq, 0, none⟩) (4 * M) (4 * M)], .agg #[.int .i64 fx, .int .i64 fy, .int .i64 (fw : Int), .int .i64 (fh : Int), .slice (some ⟨g1, 0, none⟩) (4 * M) (4 * M)], .agg #[.int .i64 gx, .int .i64 gy, .int .i64 (gw : Int), .int .i64 (gh : Int), .slice (some ⟨g2, 0, none⟩) (4 * M2) (4 * M2)], undef, .bool true, .bool true, .bool true, .agg #[.int .i64 fx, .int .i64 fy, .int .i64 (fw : Int), .int .i64 (fh : Int), .slice (some ⟨g1, 0, none⟩) (4 * M) (4 * M)], .agg #[.int .i64 gx, .int .i64 gy, .int .i64 (gw : Int), .int .i64 (gh : Int), .slice (some ⟨g2, 0, none⟩) (4 * M2) (4 * M2)], .bool (false), .agg #[.int .i64 fx, .int .i64 fy, .int .i64 (fw : Int), .int .i64 (fh : Int), .slice (some ⟨g1, 0, none⟩) (4 * M) (4 * M)], .agg #[.int .i64 gx, .int .i64 gy, .int .i64 (gw : Int), .int .i64 (gh : Int), .slice (some ⟨g2, 0, none⟩) (4 * M2) (4 * M2)], .bool (false), .bool true, .bool true].getD q undef) (fun _ => false) (fun w' => Below wn.heap.size wn w') (by kernel_rfl) (by kernel_rfl) (fun _ _ _ _ _ h => h)
                      (fun _ _ h e => e.trans (h.mono e.size)) (fun t u a' b' hb h => ?_) (Below.refl _ _).drew ?_ ?_ ?_
                    · split
                      · rename_i h4
                        rw [if_pos h4] at h
                        obtain ⟨g, c, e1, e2, e3⟩ := h
                        exact ⟨g, c, e1, e2, e3.keep hb⟩
                      · rename_i h4
                        rw [if_neg h4] at h
                        exact h
                    · intro t op ht hlt hop
                      clear hlt
                      rcases (by omega : t = 0 ∨ t = 1 ∨ t = 2 ∨ t = 3 ∨ t = 4 ∨ t = 5 ∨ t = 6 ∨ t = 7 ∨ t = 8 ∨ t = 9 ∨ t = 10 ∨ t = 11 ∨ t = 12 ∨ t = 13 ∨ t = 14 ∨ t = 15 ∨ t = 16 ∨ t = 17) with rfl | rfl | rfl | rfl | rfl | rfl | rfl | rfl | rfl | rfl | rfl | rfl | rfl | rfl | rfl | rfl | rfl | rfl
                      all_goals simp only [List.getElem?_cons_zero, List.getElem?_cons_succ, Option.some.injEq] at hop
                      all_goals subst hop
                      all_goals intro a wx hE hag hdep
                      · refine grd_none rfl ?_
                        have e0 := slot_eq (hag 14 rfl)
                        exact rel_pure _ rfl rfl (by simp [go_sem, e0])
                      · refine grd_none rfl ?_
                        have e0 := slot_eq (hdep ⟨0, .data⟩ (by simp) rfl)
                        exact rel_pure _ rfl rfl (by simp [go_sem, e0])
                      · refine grd_none rfl ?_
                        have e0 := slot_eq (hdep ⟨1, .data⟩ (by simp) rfl)
                        exact rel_pure _ rfl rfl (by simp [go_sem, e0])
                      · refine grd_yes (j := 2) (b := true) rfl (hdep ⟨2, .guard⟩ (by simp) rfl) ?_
                        have e0 := slot_eq (hag 23 rfl)
                        have hq := (x23.keep hE).all.1
                        exact rel_pure _ rfl rfl (by simp [go_sem, e0, hq])
                      · refine grd_yes (j := 2) (b := true) rfl (hdep ⟨2, .guard⟩ (by simp) rfl) ?_
                        have e0 := slot_eq (hag 6 rfl)
                        have hq := (fa.1.keep hE).all.1
                        exact rel_pure _ rfl rfl (by simp [go_sem, e0, hq])
                      · refine grd_yes (j := 2) (b := true) rfl (hdep ⟨2, .guard⟩ (by simp) rfl) ?_
                        have e0 := slot_eq (hag 7 rfl)
                        have hq := (fb.1.keep hE).all.1
                        exact rel_pure _ rfl rfl (by simp [go_sem, e0, hq])
                      · refine grd_yes (j := 2) (b := true) rfl (hdep ⟨2, .guard⟩ (by simp) rfl) ?_
                        have e0 := slot_eq (hdep ⟨4, .data⟩ (by simp) rfl)
                        have e1 := slot_eq (hdep ⟨5, .data⟩ (by simp) rfl)
                        refine rel_call (f := 66) (args := #[.agg #[.int .i64 fx, .int .i64 fy, .int .i64 (fw : Int), .int .i64 (fh : Int), .slice (some ⟨g1, 0, none⟩) (4 * M) (4 * M)], .agg #[.int .i64 gx, .int .i64 gy, .int .i64 (gw : Int), .int .i64 (gh : Int), .slice (some ⟨g2, 0, none⟩) (4 * M2) (4 * M2)]]) (run_go_call Try.func66 (by kernel_rfl) (by kernel_rfl) _ _ _ _ _ _ _ _ _ _ (by simp [Act.eval, e0, e1])) rfl ?_
                        refine (ref_Paste fx fy gx gy fw fh gw gh i0 j0 i1 j1 cw ch g1 0 (4 * M) (4 * M) g2 0 (4 * M2) (4 * M2) zs zs2 wx (by omega) (by omega) (by omega) (by omega) (by omega) (by omega) (by omega) (by omega) (by omega) (by omega) (by omega) (by omega) (by omega) (by omega) (by omega) (by omega) Hm.out.1 (by rw [hd.out.2.2.1]) (Nat.le_refl _) hd.out.1 (fa.2.1.keep hE) (by rw [hd.out.2.2.2.2.2]) (Nat.le_refl _) hd.out.2.2.2.1 (fb.2.1.keep hE)).mono ?_
                        rintro e w' ⟨g, c, rfl, hcc, hg, hrd, hb⟩
                        rw [← hd.out.2.2.1] at hrd
                        exact ⟨_, rfl, ⟨g, c, by rw [hd.out.2.2.1], Nat.le_trans hE.size hg, hrd⟩, hb⟩
                      · refine grd_yes (j := 2) (b := true) rfl (hdep ⟨2, .guard⟩ (by simp) rfl) ?_
                        have e0 := slot_eq (hdep ⟨3, .data⟩ (by simp) rfl)
                        obtain ⟨g, c, e1, hg, hrd⟩ := hdep ⟨6, .data⟩ (by simp) rfl
                        have e1 := slot_eq e1
                        refine rel_call (f := 29) (args := #[.agg #[.int .i64 fx, .int .i64 fy, .int .i64 (fw : Int), .int .i64 (fh : Int), .slice (some ⟨gq, 0, none⟩) (4 * M) (4 * M)], .agg #[.int .i64 fx, .int .i64 fy, .int .i64 (fw : Int), .int .i64 (fh : Int), .slice (some ⟨g, 0, none⟩) (4 * M) c]]) (run_go_call Try.func29 (by kernel_rfl) (by kernel_rfl) _ _ _ _ _ _ _ _ _ _ (by simp [Act.eval, e0, e1])) rfl ?_
                        refine (ref_SameFrame _ _ _ _ _ _ _ _ _ _ _ _ wx (by omega) (madeL_len _ _) (rq.keep hE) hrd).mono ?_
                        rintro e w' ⟨rfl, hb⟩
                        exact ⟨_, rfl, rfl, hb⟩
                      · refine grd_none rfl ?_
                        have e0 := slot_eq (hdep ⟨2, .data⟩ (by simp) rfl)
                        have e1 := slot_eq (hdep ⟨7, .data⟩ (by simp) rfl)
                        exact rel_pure _ rfl rfl (by simp [go_sem, e0, e1])
                      · refine grd_none rfl ?_
                        have e0 := slot_eq (hdep ⟨8, .data⟩ (by simp) rfl)
                        exact rel_pure _ rfl rfl (by simp [go_sem, e0])
                      · refine grd_yes (j := 9) (b := true) rfl (hdep ⟨9, .guard⟩ (by simp) rfl) ?_
                        have e0 := slot_eq (hag 6 rfl)
                        have hq := (fa.1.keep hE).all.1
                        exact rel_pure _ rfl rfl (by simp [go_sem, e0, hq])
                      · refine grd_yes (j := 9) (b := true) rfl (hdep ⟨9, .guard⟩ (by simp) rfl) ?_
                        have e0 := slot_eq (hag 7 rfl)
                        have hq := (fb.1.keep hE).all.1
                        exact rel_pure _ rfl rfl (by simp [go_sem, e0, hq])
                      · refine grd_yes (j := 9) (b := true) rfl (hdep ⟨9, .guard⟩ (by simp) rfl) ?_
                        have e0 := slot_eq (hdep ⟨10, .data⟩ (by simp) rfl)
                        have e1 := slot_eq (hdep ⟨11, .data⟩ (by simp) rfl)
                        refine rel_call (f := 70) (args := #[.agg #[.int .i64 fx, .int .i64 fy, .int .i64 (fw : Int), .int .i64 (fh : Int), .slice (some ⟨g1, 0, none⟩) (4 * M) (4 * M)], .agg #[.int .i64 gx, .int .i64 gy, .int .i64 (gw : Int), .int .i64 (gh : Int), .slice (some ⟨g2, 0, none⟩) (4 * M2) (4 * M2)]]) (run_go_call Try.func70 (by kernel_rfl) (by kernel_rfl) _ _ _ _ _ _ _ _ _ _ (by simp [Act.eval, e0, e1])) rfl ?_
                        refine (frame_Same_off _ _ _ _ _ _ _ _ _ _ _ _ _ _ wx (fun hh => hne.out hh.1)).mono ?_
                        rintro e w' ⟨rfl, hb⟩
                        exact ⟨_, rfl, rfl, hb⟩
                      · refine grd_yes (j := 9) (b := true) rfl (hdep ⟨9, .guard⟩ (by simp) rfl) ?_
                        have e0 := slot_eq (hag 6 rfl)
                        have hq := (fa.1.keep hE).all.1
                        exact rel_pure _ rfl rfl (by simp [go_sem, e0, hq])
                      · refine grd_yes (j := 9) (b := true) rfl (hdep ⟨9, .guard⟩ (by simp) rfl) ?_
                        have e0 := slot_eq (hag 7 rfl)
                        have hq := (fb.1.keep hE).all.1
                        exact rel_pure _ rfl rfl (by simp [go_sem, e0, hq])
                      · refine grd_yes (j := 9) (b := true) rfl (hdep ⟨9, .guard⟩ (by simp) rfl) ?_
                        have e0 := slot_eq (hdep ⟨13, .data⟩ (by simp) rfl)
                        have e1 := slot_eq (hdep ⟨14, .data⟩ (by simp) rfl)
                        refine rel_call (f := 71) (args := #[.agg #[.int .i64 fx, .int .i64 fy, .int .i64 (fw : Int), .int .i64 (fh : Int), .slice (some ⟨g1, 0, none⟩) (4 * M) (4 * M)], .agg #[.int .i64 gx, .int .i64 gy, .int .i64 (gw : Int), .int .i64 (gh : Int), .slice (some ⟨g2, 0, none⟩) (4 * M2) (4 * M2)]]) (run_go_call Try.func71 (by kernel_rfl) (by kernel_rfl) _ _ _ _ _ _ _ _ _ _ (by simp [Act.eval, e0, e1])) rfl ?_
                        refine (ref_Same_off _ _ _ _ _ _ _ _ _ _ _ _ _ _ wx (fun hh => hne.out hh.1)).mono ?_
                        rintro e w' ⟨rfl, hb⟩
                        exact ⟨_, rfl, rfl, hb⟩
                      · refine grd_yes (j := 9) (b := true) rfl (hdep ⟨9, .guard⟩ (by simp) rfl) ?_
                        have e0 := slot_eq (hdep ⟨12, .data⟩ (by simp) rfl)
                        have e1 := slot_eq (hdep ⟨15, .data⟩ (by simp) rfl)
                        exact rel_pure _ rfl rfl (by simp [go_sem, e0, e1])
                      · refine grd_none rfl ?_
                        have e0 := slot_eq (hdep ⟨9, .data⟩ (by simp) rfl)
                        have e1 := slot_eq (hdep ⟨16, .data⟩ (by simp) rfl)
                        exact rel_pure _ rfl rfl (by simp [go_sem, e0, e1])
                    · intro t op ht hlt; cases hlt
                    · intro vs wv2 hE hvs _
                      have k17 : vs 17 = .bool true := hvs 17 (by omega)
                      simp only [List.drop_succ_cons, List.drop_zero, putAll, dstAt, List.getElem?_toArray, List.getElem?_cons_zero, List.getElem?_cons_succ, Option.bind_some, Act.put, List.setIfInBounds_toArray, List.set_cons_zero, List.set_cons_succ, k17]
                      clear hvs k17
                      replace fa := fa.keep hE
                      replace fb := fb.keep hE
                      replace xR := xR.keep hE
                      replace xP := xP.keep hE
                      replace B := B.trans (hE.mono B.size)
                      clear hE x23 x24 rq hgq
                      go_wp2_with fail
                      go_ret
                      exact ⟨rfl, B⟩
                · have Hm := Lib.hid hcm
                  clear hcm
                  refine (frame_Paste_place fx fy gx gy fw fh gw gh g1 0 (4 * M) (4 * M) g2 0 (4 * M2) (4 * M2) zs zs2 _ fa.chk fa.reg fb.chk fb.reg (by rw [hd.out.2.2.1]) hd.out.1 fa.2.1 (by rw [hd.out.2.2.2.2.2]) hd.out.2.2.2.1 fb.2.1 Hm.out).mono ?_
                  rintro e wv ⟨rfl, hb⟩
                  clear q0 f0 l0 q1 f1 l1 q2 f2 l2 q3 f3 l3
                  replace fa := fa.keep hb
                  replace fb := fb.keep hb
                  replace xR := xR.keep hb
                  replace xP := xP.keep hb
                  replace B := bcall B hb
                  clear hb
                  obtain ⟨q0, f0, l0⟩ := fa.1.all
                  obtain ⟨q1, f1, l1⟩ := fb.1.all
                  obtain ⟨q2, f2, l2⟩ := xR.all
                  obtain ⟨q3, f3, l3⟩ := xP.all
                  go_wp2_with fail
                  refine nm_call ?_
                  intro wn hwn
                  have x23 : Bx wn wv.heap.size 26 #[.int .i64 0, .int .i64 0, .int .i64 0, .int .i64 0, .slice none 0 0] := by rw [hwn]; exact Bx.new _ _ _
                  have hb : Below wv.heap.size wv wn := by rw [hwn]; exact bnew (Below.refl _ _)
                  clear q0 f0 l0 q1 f1 l1 q2 f2 l2 q3 f3 l3
                  replace fa := fa.keep hb
                  replace fb := fb.keep hb
                  replace xR := xR.keep hb
                  replace xP := xP.keep hb
                  replace B := bcall B hb
                  clear hwn hb
                  generalize wv.heap.size = p23 at *
                  refine (ref_Common_at _ _ _ _ _ _ _ _ _ _ _ _ _ Hm.out _ (by omega) (by omega) (by omega) (by omega) (by omega) (by omega) (by omega) (by omega) (by omega) (by omega) (by omega) (by omega) (by omega) (by omega) (by omega) (by omega)).mono ?_
                  rintro e wv ⟨rfl, hb⟩
                  replace fa := fa.keep hb
                  replace fb := fb.keep hb
                  replace xR := xR.keep hb
                  replace xP := xP.keep hb
                  replace x23 := x23.keep hb
                  replace B := bcall B hb
                  clear hb
                  obtain ⟨q0, f0, l0⟩ := fa.1.all
                  obtain ⟨q1, f1, l1⟩ := fb.1.all
                  obtain ⟨q2, f2, l2⟩ := xR.all
                  obtain ⟨q3, f3, l3⟩ := xP.all
                  obtain ⟨q4, f4, l4⟩ := x23.all
                  go_wp2_with fail
                  go_ret
                  exact ⟨rfl, bnew B⟩
    · obtain ⟨q0, f0, l0⟩ := fa.1.all
      obtain ⟨q1, f1, l1⟩ := fb.1.all
      obtain ⟨q2, f2, l2⟩ := xR.all
      obtain ⟨q3, f3, l3⟩ := xP.all
      go_wp2_with fail
      refine (frame_Fill_bad _ _ _ _ k F _ hk.out hk0).mono ?_
      rintro e wv ⟨rfl, hb⟩
      clear q0 f0 l0 q1 f1 l1 q2 f2 l2 q3 f3 l3
      replace fa := fa.keep hb
      replace fb := fb.keep hb
      replace xR := xR.keep hb
      replace xP := xP.keep hb
      replace B := bcall B hb
      clear hb
      have hxp : W.heap.size + 1 + 1 + 1 < wv.heap.size := xP.lt
      obtain ⟨q0, f0, l0⟩ := fa.1.all
      obtain ⟨q1, f1, l1⟩ := fb.1.all
      obtain ⟨q2, f2, l2⟩ := xR.all
      obtain ⟨q3, f3, l3⟩ := xP.all
      go_wp2_with fail
      refine nm_call ?_
      intro wn hwn
      have x13 : Bx wn wv.heap.size 26 #[.int .i64 0, .int .i64 0, .int .i64 0, .int .i64 0, .slice none 0 0] := by rw [hwn]; exact Bx.new _ _ _
      have hb : Below wv.heap.size wv wn := by rw [hwn]; exact bnew (Below.refl _ _)
      clear q0 f0 l0 q1 f1 l1 q2 f2 l2 q3 f3 l3
      replace fa := fa.keep hb
      replace fb := fb.keep hb
      replace xR := xR.keep hb
      replace xP := xP.keep hb
      replace B := bcall B hb
      clear hwn hb
      generalize wv.heap.size = p13 at *
      refine (ref_RegionError _ _ _ _ _).mono ?_
      rintro e wv ⟨rfl, hb⟩
      replace fa := fa.keep hb
      replace fb := fb.keep hb
      replace xR := xR.keep hb
      replace xP := xP.keep hb
      replace x13 := x13.keep hb
      replace B := bcall B hb
      clear hb
      rw [hk.out]
      have hkb : (k == 0) = false := by simpa using hk0
      obtain ⟨q0, f0, l0⟩ := fa.1.all
      obtain ⟨q1, f1, l1⟩ := fb.1.all
      obtain ⟨q2, f2, l2⟩ := xR.all
      obtain ⟨q3, f3, l3⟩ := xP.all
      obtain ⟨q4, f4, l4⟩ := x13.all
      go_wp2_with fail
      clear q0 f0 l0 q1 f1 l1 q2 f2 l2 q3 f3 l3 q4 f4 l4
      refine wp_region_grd 14 (fun _ => false) (fun q u w' => u = [.int .i64 k, .int .i64 k, .bool false, .bool false, .int .i64 k, .bool false, .bool false, undef, undef, undef, undef, undef, undef, .bool false].getD q undef) (fun _ => false) (fun w' => Below wv.heap.size wv w') (by kernel_rfl) (by kernel_rfl) (fun _ _ _ _ _ h => h)
        (fun _ _ h e => e.trans (h.mono e.size)) (fun t u a' b' hb h => ?_) (Below.refl _ _).drew ?_ ?_ ?_
      · exact h
      · intro t op ht hlt hop
        clear hlt
        rcases (by omega : t = 0 ∨ t = 1 ∨ t = 2 ∨ t = 3 ∨ t = 4 ∨ t = 5 ∨ t = 6 ∨ t = 7 ∨ t = 8 ∨ t = 9 ∨ t = 10 ∨ t = 11 ∨ t = 12 ∨ t = 13) with rfl | rfl | rfl | rfl | rfl | rfl | rfl | rfl | rfl | rfl | rfl | rfl | rfl | rfl
        all_goals simp only [List.getElem?_cons_zero, List.getElem?_cons_succ, Option.some.injEq] at hop
        all_goals subst hop
        all_goals intro a wx hE hag hdep
        · refine grd_none rfl ?_
          have e0 := slot_eq (hag 14 rfl)
          exact rel_pure _ rfl rfl (by simp [go_sem, e0])
        · refine grd_none rfl ?_
          have e0 := slot_eq (hag 15 rfl)
          exact rel_pure _ rfl rfl (by simp [go_sem, e0])
        · refine grd_none rfl ?_
          have e0 := slot_eq (hdep ⟨0, .data⟩ (by simp) rfl)
          have e1 := slot_eq (hdep ⟨1, .data⟩ (by simp) rfl)
          exact rel_pure _ rfl rfl (by simp [go_sem, e0, e1])
        · refine grd_none rfl ?_
          have e0 := slot_eq (hdep ⟨2, .data⟩ (by simp) rfl)
          exact rel_pure _ rfl rfl (by simp [go_sem, e0])
        · refine grd_yes (j := 3) (b := false) rfl (hdep ⟨3, .guard⟩ (by simp) rfl) ?_
          have e0 := slot_eq (hag 14 rfl)
          exact rel_pure _ rfl rfl (by simp [go_sem, e0])
        · refine grd_yes (j := 3) (b := false) rfl (hdep ⟨3, .guard⟩ (by simp) rfl) ?_
          have e0 := slot_eq (hdep ⟨4, .data⟩ (by simp) rfl)
          exact rel_pure _ rfl rfl (by simp [go_sem, e0, hkb])
        · refine grd_yes (j := 3) (b := false) rfl (hdep ⟨3, .guard⟩ (by simp) rfl) ?_
          have e0 := slot_eq (hdep ⟨5, .data⟩ (by simp) rfl)
          exact rel_pure _ rfl rfl (by simp [go_sem, e0])
        · exact grd_no (j := 6) (b := true) rfl (hdep ⟨6, .guard⟩ (by simp) rfl) rfl rfl
        · exact grd_no (j := 6) (b := true) rfl (hdep ⟨6, .guard⟩ (by simp) rfl) rfl rfl
        · exact grd_no (j := 6) (b := true) rfl (hdep ⟨6, .guard⟩ (by simp) rfl) rfl rfl
        · exact grd_no (j := 6) (b := true) rfl (hdep ⟨6, .guard⟩ (by simp) rfl) rfl rfl
        · exact grd_no (j := 6) (b := true) rfl (hdep ⟨6, .guard⟩ (by simp) rfl) rfl rfl
        · exact grd_no (j := 6) (b := true) rfl (hdep ⟨6, .guard⟩ (by simp) rfl) rfl rfl
        · refine grd_yes (j := 3) (b := false) rfl (hdep ⟨3, .guard⟩ (by simp) rfl) ?_
          have e0 := slot_eq (hdep ⟨6, .data⟩ (by simp) rfl)
          exact rel_pure _ rfl rfl (by simp [go_sem, e0])
      · intro t op ht hlt; cases hlt
      · intro vs wv2 hE hvs _
        have k3 : vs 3 = .bool false := hvs 3 (by omega)
        have k13 : vs 13 = .bool false := hvs 13 (by omega)
        simp only [List.drop_succ_cons, List.drop_zero, putAll, dstAt, List.getElem?_toArray, List.getElem?_cons_zero, List.getElem?_cons_succ, Option.bind_some, Act.put, List.setIfInBounds_toArray, List.set_cons_zero, List.set_cons_succ, k3, k13]
        clear hvs k3 k13
        replace fa := fa.keep hE
        replace fb := fb.keep hE
        replace xR := xR.keep hE
        replace xP := xP.keep hE
        replace x13 := x13.keep hE
        replace B := B.trans (hE.mono B.size)
        clear hE
        clear x13
        cases hI : inB pu pv 1 1 fx fy fw fh
        · have hh : Hid (hasB fx fy fw fh pu pv = false) := Lib.hid (by rw [← Bool.not_eq_true] at hI ⊢; unfold inB at hI; unfold hasB; simp only [Bool.and_eq_true, decide_eq_true_eq] at hI ⊢; omega)
          have hi := Lib.hid hI
          clear hI
          obtain ⟨q0, f0, l0⟩ := fa.1.all
          obtain ⟨q1, f1, l1⟩ := fb.1.all
          obtain ⟨q2, f2, l2⟩ := xR.all
          obtain ⟨q3, f3, l3⟩ := xP.all
          go_wp2_with fail
          refine (ref_Inside_is _ _ _ _ _ _ _ _ false hi.out _ (by omega) (by omega) (by omega) (by omega) (by omega) (by omega) (by omega) (by omega) (by omega) (by omega) (by omega) (by omega)).mono ?_
          rintro e wv ⟨rfl, hb⟩
          clear q0 f0 l0 q1 f1 l1 q2 f2 l2 q3 f3 l3
          replace fa := fa.keep hb
          replace fb := fb.keep hb
          replace xR := xR.keep hb
          replace xP := xP.keep hb
          replace B := bcall B hb
          clear hb
          obtain ⟨q0, f0, l0⟩ := fa.1.all
          obtain ⟨q1, f1, l1⟩ := fb.1.all
          obtain ⟨q2, f2, l2⟩ := xR.all
          obtain ⟨q3, f3, l3⟩ := xP.all
          go_wp2_with fail
          refine (frame_At_out _ _ _ _ pu pv _ _ _ _ (by unfold maxLen; omega) fa.chk fa.reg hh.out).mono ?_
          rintro e wv ⟨rfl, hb⟩
          clear q0 f0 l0 q1 f1 l1 q2 f2 l2 q3 f3 l3
          replace fa := fa.keep hb
          replace fb := fb.keep hb
          replace xR := xR.keep hb
          replace xP := xP.keep hb
          replace B := bcall B hb
          clear hb
          have hx17 : W.heap.size + 1 + 1 + 1 < wv.heap.size := xP.lt
          obtain ⟨q0, f0, l0⟩ := fa.1.all
          obtain ⟨q1, f1, l1⟩ := fb.1.all
          obtain ⟨q2, f2, l2⟩ := xR.all
          obtain ⟨q3, f3, l3⟩ := xP.all
          go_wp2_with fail
          refine nm_call ?_
          intro wn hwn
          have x17 : Bx wn wv.heap.size 35 #[.float .f32 0, .float .f32 0, .float .f32 0, .float .f32 0] := by rw [hwn]; exact Bx.new _ _ _
          have hb : Below wv.heap.size wv wn := by rw [hwn]; exact bnew (Below.refl _ _)
          clear q0 f0 l0 q1 f1 l1 q2 f2 l2 q3 f3 l3
          replace fa := fa.keep hb
          replace fb := fb.keep hb
          replace xR := xR.keep hb
          replace xP := xP.keep hb
          replace B := bcall B hb
          clear hwn hb
          generalize wv.heap.size = p17 at *
          refine (frame_Put_out _ _ _ _ pu pv _ _ _ F _ (by unfold maxLen; omega) fa.chk fa.reg hh.out).mono ?_
          rintro e wv ⟨rfl, hb⟩
          replace fa := fa.keep hb
          replace fb := fb.keep hb
          replace xR := xR.keep hb
          replace xP := xP.keep hb
          replace x17 := x17.keep hb
          replace B := bcall B hb
          clear hb
          have hx18 : p17 < wv.heap.size := x17.lt
          obtain ⟨q0, f0, l0⟩ := fa.1.all
          obtain ⟨q1, f1, l1⟩ := fb.1.all
          obtain ⟨q2, f2, l2⟩ := xR.all
          obtain ⟨q3, f3, l3⟩ := xP.all
          obtain ⟨q4, f4, l4⟩ := x17.all
          go_wp2_with fail
          refine nm_call ?_
          intro wn hwn
          have x18 : Bx wn wv.heap.size 26 #[.int .i64 0, .int .i64 0, .int .i64 0, .int .i64 0, .slice none 0 0] := by rw [hwn]; exact Bx.new _ _ _
          have hb : Below wv.heap.size wv wn := by rw [hwn]; exact bnew (Below.refl _ _)
          clear q0 f0 l0 q1 f1 l1 q2 f2 l2 q3 f3 l3 q4 f4 l4
          replace fa := fa.keep hb
          replace fb := fb.keep hb
          replace xR := xR.keep hb
          replace xP := xP.keep hb
          replace x17 := x17.keep hb
          replace B := bcall B hb
          clear hwn hb
          generalize wv.heap.size = p18 at *
          clear x17 x18
          obtain ⟨q0, f0, l0⟩ := fa.1.all
          obtain ⟨q1, f1, l1⟩ := fb.1.all
          obtain ⟨q2, f2, l2⟩ := xR.all
          obtain ⟨q3, f3, l3⟩ := xP.all
          go_wp2_with fail
          refine (frame_Cut_bad _ _ _ _ _ _ _ _ k _ _ _ _ (by unfold maxLen; omega) fa.chk hk.out hk0).mono ?_
          rintro e wv ⟨rfl, hb⟩
          clear q0 f0 l0 q1 f1 l1 q2 f2 l2 q3 f3 l3
          replace fa := fa.keep hb
          replace fb := fb.keep hb
          replace xR := xR.keep hb
          replace xP := xP.keep hb
          replace B := bcall B hb
          clear hb
          obtain ⟨q0, f0, l0⟩ := fa.1.all
          obtain ⟨q1, f1, l1⟩ := fb.1.all
          obtain ⟨q2, f2, l2⟩ := xR.all
          obtain ⟨q3, f3, l3⟩ := xP.all
          go_wp2_with fail
          refine nm_call ?_
          intro wn hwn
          have x22 : Bx wn wv.heap.size 26 #[.int .i64 0, .int .i64 0, .int .i64 0, .int .i64 0, .slice none 0 0] := by rw [hwn]; exact Bx.new _ _ _
          have hb : Below wv.heap.size wv wn := by rw [hwn]; exact bnew (Below.refl _ _)
          clear q0 f0 l0 q1 f1 l1 q2 f2 l2 q3 f3 l3
          replace fa := fa.keep hb
          replace fb := fb.keep hb
          replace xR := xR.keep hb
          replace xP := xP.keep hb
          replace B := bcall B hb
          clear hwn hb
          generalize wv.heap.size = p22 at *
          clear x22
          rcases common_meet fx fy fw fh gx gy gw gh (by omega) (by omega) (by omega) (by omega) with ⟨i0, j0, i1, j1, cw, ch, hm, hcm⟩ | ⟨hcm, _⟩
          · have Hm := Lib.hid (And.intro hm hcm)
            clear hm hcm
            refine (frame_Paste_ok fx fy gx gy fw fh gw gh g1 0 (4 * M) (4 * M) g2 0 (4 * M2) (4 * M2) zs zs2 _ fa.chk fa.reg fb.chk fb.reg (by rw [hd.out.2.2.1]) hd.out.1 fa.2.1 (by rw [hd.out.2.2.2.2.2]) hd.out.2.2.2.1 fb.2.1 i0 j0 i1 j1 cw ch Hm.out.1 Hm.out.2).mono ?_
            rintro e wv ⟨gq, rfl, hgq, rowq, hb⟩
            replace fa := fa.keep hb
            replace fb := fb.keep hb
            replace xR := xR.keep hb
            replace xP := xP.keep hb
            replace B := bcall B hb
            clear hb
            have rq := rowq.rd
            clear rowq
            have hx23 : W.heap.size + 1 + 1 + 1 < wv.heap.size := xP.lt
            obtain ⟨q0, f0, l0⟩ := fa.1.all
            obtain ⟨q1, f1, l1⟩ := fb.1.all
            obtain ⟨q2, f2, l2⟩ := xR.all
            obtain ⟨q3, f3, l3⟩ := xP.all
            go_wp2_with fail
            refine nm_call ?_
            intro wn hwn
            have x23 : Bx wn wv.heap.size 26 #[.int .i64 fx, .int .i64 fy, .int .i64 (fw : Int), .int .i64 (fh : Int), .slice (some ⟨gq, 0, none⟩) (4 * M) (4 * M)] := by rw [hwn]; exact Bx.new _ _ _
            have hb : Below wv.heap.size wv wn := by rw [hwn]; exact bnew (Below.refl _ _)
            clear q0 f0 l0 q1 f1 l1 q2 f2 l2 q3 f3 l3
            replace fa := fa.keep hb
            replace fb := fb.keep hb
            replace xR := xR.keep hb
            replace xP := xP.keep hb
            replace rq := rq.keep hb
            replace B := bcall B hb
            clear hwn hb
            generalize wv.heap.size = p23 at *
            refine (ref_Common_at _ _ _ _ _ _ _ _ _ _ _ _ _ Hm.out.2 _ (by omega) (by omega) (by omega) (by omega) (by omega) (by omega) (by omega) (by omega) (by omega) (by omega) (by omega) (by omega) (by omega) (by omega) (by omega) (by omega)).mono ?_
            rintro e wv ⟨rfl, hb⟩
            replace fa := fa.keep hb
            replace fb := fb.keep hb
            replace xR := xR.keep hb
            replace xP := xP.keep hb
            replace x23 := x23.keep hb
            replace rq := rq.keep hb
            replace B := bcall B hb
            clear hb
            have hx24 : p23 < wv.heap.size := x23.lt
            obtain ⟨q0, f0, l0⟩ := fa.1.all
            obtain ⟨q1, f1, l1⟩ := fb.1.all
            obtain ⟨q2, f2, l2⟩ := xR.all
            obtain ⟨q3, f3, l3⟩ := xP.all
            obtain ⟨q4, f4, l4⟩ := x23.all
            go_wp2_with fail
            refine name_world ?_
            intro wn hwn
            have x24 : Bx wn wv.heap.size 23 #[.int .i64 (fx + i0), .int .i64 (fy + j0), .int .i64 (cw : Int), .int .i64 (ch : Int)] := by rw [hwn]; exact Bx.new _ _ _
            have hb : Below wv.heap.size wv wn := by rw [hwn]; exact bnew (Below.refl _ _)
            clear q0 f0 l0 q1 f1 l1 q2 f2 l2 q3 f3 l3 q4 f4 l4
            replace fa := fa.keep hb
            replace fb := fb.keep hb
            replace xR := xR.keep hb
            replace xP := xP.keep hb
            replace x23 := x23.keep hb
            replace rq := rq.keep hb
            replace B := bcall B hb
            clear hwn hb
            generalize wv.heap.size = p24 at *
            by_cases heq : fx = gx ∧ fy = gy ∧ fw = gw ∧ fh = gh
            · obtain ⟨rfl, rfl, rfl, rfl⟩ := heq
              obtain rfl : M = M2 := by rw [hd.out.2.2.1, hd.out.2.2.2.2.2]
              refine wp_region_grd 18 (fun _ => false) (fun q u w' => if q = 6 then ∃ g c, u = .agg #[.int .i64 fx, .int .i64 fy, .int .i64 (fw : Int), .int .i64 (fh : Int), .slice (some ⟨g, 0, none⟩) (4 * M) c] ∧ wn.heap.size ≤ g ∧ Rd w' g 0 (madeL (pasteP zs zs2 fw fw i0 j0 i1 j1 cw ch) (4 * M)) else u = [.int .i64 0, .bool true, .bool true, .agg #[.int .i64 fx, .int .i64 fy, .int .i64 (fw : Int), .int .i64 (fh : Int), .slice (some ⟨gq, 0, none⟩) (4 * M) (4 * M)], .agg #[.int .i64 fx, .int .i64 fy, .int .i64 (fw : Int), .int .i64 (fh : Int), .slice (some ⟨g1, 0, none⟩) (4 * M) (4 * M)], .agg #[.int .i64 fx, .int .i64 fy, .int .i64 (fw : Int), .int .i64 (fh : Int), .slice (some ⟨g2, 0, none⟩) (4 * M) (4 * M)], undef, .bool true, .bool true, .bool true, .agg #[.int .i64 fx, .int .i64 fy, .int .i64 (fw : Int), .int .i64 (fh : Int), .slice (some ⟨g1, 0, none⟩) (4 * M) (4 * M)], .agg #[.int .i64 fx, .int .i64 fy, .int .i64 (fw : Int), .int .i64 (fh : Int), .slice (some ⟨g2, 0, none⟩) (4 * M) (4 * M)], .bool (allSame (4 * M) zs zs2), .agg #[.int .i64 fx, .int .i64 fy, .int .i64 (fw : Int), .int .i64 (fh : Int), .slice (some ⟨g1, 0, none⟩) (4 * M) (4 * M)], .agg #[.int .i64 fx, .int .i64 fy, .int .i64 (fw : Int), .int .i64 (fh : Int), .slice (some ⟨g2, 0, none⟩) (4 * M) (4 * M)], .bool (allSame (4 * M) zs zs2), .bool true, .bool true].getD q undef) (fun _ => false) (fun w' => Below wn.heap.size wn w') (by kernel_rfl) (by kernel_rfl) (fun _ _ _ _ _ h => h)
                (fun _ _ h e => e.trans (h.mono e.size)) (fun t u a' b' hb h => ?_) (Below.refl _ _).drew ?_ ?_ ?_
              · split
                · rename_i h4
                  rw [if_pos h4] at h
                  obtain ⟨g, c, e1, e2, e3⟩ := h
                  exact ⟨g, c, e1, e2, e3.keep hb⟩
                · rename_i h4
                  rw [if_neg h4] at h
                  exact h
              · intro t op ht hlt hop
                clear hlt
                rcases (by omega : t = 0 ∨ t = 1 ∨ t = 2 ∨ t = 3 ∨ t = 4 ∨ t = 5 ∨ t = 6 ∨ t = 7 ∨ t = 8 ∨ t = 9 ∨ t = 10 ∨ t = 11 ∨ t = 12 ∨ t = 13 ∨ t = 14 ∨ t = 15 ∨ t = 16 ∨ t = 17) with rfl | rfl | rfl | rfl | rfl | rfl | rfl | rfl | rfl | rfl | rfl | rfl | rfl | rfl | rfl | rfl | rfl | rfl
                all_goals simp only [List.getElem?_cons_zero, List.getElem?_cons_succ, Option.some.injEq] at hop
                all_goals subst hop
                all_goals intro a wx hE hag hdep
                · refine grd_none rfl ?_
                  have e0 := slot_eq (hag 14 rfl)
                  exact rel_pure _ rfl rfl (by simp [go_sem, e0])
                · refine grd_none rfl ?_
                  have e0 := slot_eq (hdep ⟨0, .data⟩ (by simp) rfl)
                  exact rel_pure _ rfl rfl (by simp [go_sem, e0])
                · refine grd_none rfl ?_
                  have e0 := slot_eq (hdep ⟨1, .data⟩ (by simp) rfl)
                  exact rel_pure _ rfl rfl (by simp [go_sem, e0])
                · refine grd_yes (j := 2) (b := true) rfl (hdep ⟨2, .guard⟩ (by simp) rfl) ?_
                  have e0 := slot_eq (hag 23 rfl)
                  have hq := (x23.keep hE).all.1
                  exact rel_pure _ rfl rfl (by simp [go_sem, e0, hq])
                · refine grd_yes (j := 2) (b := true) rfl (hdep ⟨2, .guard⟩ (by simp) rfl) ?_
                  have e0 := slot_eq (hag 6 rfl)
                  have hq := (fa.1.keep hE).all.1
                  exact rel_pure _ rfl rfl (by simp [go_sem, e0, hq])
                · refine grd_yes (j := 2) (b := true) rfl (hdep ⟨2, .guard⟩ (by simp) rfl) ?_
                  have e0 := slot_eq (hag 7 rfl)
                  have hq := (fb.1.keep hE).all.1
                  exact rel_pure _ rfl rfl (by simp [go_sem, e0, hq])
                · refine grd_yes (j := 2) (b := true) rfl (hdep ⟨2, .guard⟩ (by simp) rfl) ?_
                  have e0 := slot_eq (hdep ⟨4, .data⟩ (by simp) rfl)
                  have e1 := slot_eq (hdep ⟨5, .data⟩ (by simp) rfl)
                  refine rel_call (f := 66) (args := #[.agg #[.int .i64 fx, .int .i64 fy, .int .i64 (fw : Int), .int .i64 (fh : Int), .slice (some ⟨g1, 0, none⟩) (4 * M) (4 * M)], .agg #[.int .i64 fx, .int .i64 fy, .int .i64 (fw : Int), .int .i64 (fh : Int), .slice (some ⟨g2, 0, none⟩) (4 * M) (4 * M)]]) (run_go_call Try.func66 (by kernel_rfl) (by kernel_rfl) _ _ _ _ _ _ _ _ _ _ (by simp [Act.eval, e0, e1])) rfl ?_
                  refine (ref_Paste fx fy fx fy fw fh fw fh i0 j0 i1 j1 cw ch g1 0 (4 * M) (4 * M) g2 0 (4 * M) (4 * M) zs zs2 wx (by omega) (by omega) (by omega) (by omega) (by omega) (by omega) (by omega) (by omega) (by omega) (by omega) (by omega) (by omega) (by omega) (by omega) (by omega) (by omega) Hm.out.1 (by rw [hd.out.2.2.1]) (Nat.le_refl _) hd.out.1 (fa.2.1.keep hE) (by rw [hd.out.2.2.2.2.2]) (Nat.le_refl _) hd.out.2.2.2.1 (fb.2.1.keep hE)).mono ?_
                  rintro e w' ⟨g, c, rfl, hcc, hg, hrd, hb⟩
                  rw [← hd.out.2.2.1] at hrd
                  exact ⟨_, rfl, ⟨g, c, by rw [hd.out.2.2.1], Nat.le_trans hE.size hg, hrd⟩, hb⟩
                · refine grd_yes (j := 2) (b := true) rfl (hdep ⟨2, .guard⟩ (by simp) rfl) ?_
                  have e0 := slot_eq (hdep ⟨3, .data⟩ (by simp) rfl)
                  obtain ⟨g, c, e1, hg, hrd⟩ := hdep ⟨6, .data⟩ (by simp) rfl
                  have e1 := slot_eq e1
                  refine rel_call (f := 29) (args := #[.agg #[.int .i64 fx, .int .i64 fy, .int .i64 (fw : Int), .int .i64 (fh : Int), .slice (some ⟨gq, 0, none⟩) (4 * M) (4 * M)], .agg #[.int .i64 fx, .int .i64 fy, .int .i64 (fw : Int), .int .i64 (fh : Int), .slice (some ⟨g, 0, none⟩) (4 * M) c]]) (run_go_call Try.func29 (by kernel_rfl) (by kernel_rfl) _ _ _ _ _ _ _ _ _ _ (by simp [Act.eval, e0, e1])) rfl ?_
                  refine (ref_SameFrame _ _ _ _ _ _ _ _ _ _ _ _ wx (by omega) (madeL_len _ _) (rq.keep hE) hrd).mono ?_
                  rintro e w' ⟨rfl, hb⟩
                  exact ⟨_, rfl, rfl, hb⟩
                · refine grd_none rfl ?_
                  have e0 := slot_eq (hdep ⟨2, .data⟩ (by simp) rfl)
                  have e1 := slot_eq (hdep ⟨7, .data⟩ (by simp) rfl)
                  exact rel_pure _ rfl rfl (by simp [go_sem, e0, e1])
                · refine grd_none rfl ?_
                  have e0 := slot_eq (hdep ⟨8, .data⟩ (by simp) rfl)
                  exact rel_pure _ rfl rfl (by simp [go_sem, e0])
                · refine grd_yes (j := 9) (b := true) rfl (hdep ⟨9, .guard⟩ (by simp) rfl) ?_
                  have e0 := slot_eq (hag 6 rfl)
                  have hq := (fa.1.keep hE).all.1
                  exact rel_pure _ rfl rfl (by simp [go_sem, e0, hq])
                · refine grd_yes (j := 9) (b := true) rfl (hdep ⟨9, .guard⟩ (by simp) rfl) ?_
                  have e0 := slot_eq (hag 7 rfl)
                  have hq := (fb.1.keep hE).all.1
                  exact rel_pure _ rfl rfl (by simp [go_sem, e0, hq])
                · refine grd_yes (j := 9) (b := true) rfl (hdep ⟨9, .guard⟩ (by simp) rfl) ?_
                  have e0 := slot_eq (hdep ⟨10, .data⟩ (by simp) rfl)
                  have e1 := slot_eq (hdep ⟨11, .data⟩ (by simp) rfl)
                  refine rel_call (f := 70) (args := #[.agg #[.int .i64 fx, .int .i64 fy, .int .i64 (fw : Int), .int .i64 (fh : Int), .slice (some ⟨g1, 0, none⟩) (4 * M) (4 * M)], .agg #[.int .i64 fx, .int .i64 fy, .int .i64 (fw : Int), .int .i64 (fh : Int), .slice (some ⟨g2, 0, none⟩) (4 * M) (4 * M)]]) (run_go_call Try.func70 (by kernel_rfl) (by kernel_rfl) _ _ _ _ _ _ _ _ _ _ (by simp [Act.eval, e0, e1])) rfl ?_
                  refine (frame_Same_in _ _ _ _ _ _ _ _ _ _ _ zs zs2 wx (by omega) hd.out.1 hd.out.2.2.2.1 (fa.2.1.keep hE) (fb.2.1.keep hE)).mono ?_
                  rintro e w' ⟨rfl, hb⟩
                  exact ⟨_, rfl, rfl, hb⟩
                · refine grd_yes (j := 9) (b := true) rfl (hdep ⟨9, .guard⟩ (by simp) rfl) ?_
                  have e0 := slot_eq (hag 6 rfl)
                  have hq := (fa.1.keep hE).all.1
                  exact rel_pure _ rfl rfl (by simp [go_sem, e0, hq])
                · refine grd_yes (j := 9) (b := true) rfl (hdep ⟨9, .guard⟩ (by simp) rfl) ?_
                  have e0 := slot_eq (hag 7 rfl)
                  have hq := (fb.1.keep hE).all.1
                  exact rel_pure _ rfl rfl (by simp [go_sem, e0, hq])
                · refine grd_yes (j := 9) (b := true) rfl (hdep ⟨9, .guard⟩ (by simp) rfl) ?_
                  have e0 := slot_eq (hdep ⟨13, .data⟩ (by simp) rfl)
                  have e1 := slot_eq (hdep ⟨14, .data⟩ (by simp) rfl)
                  refine rel_call (f := 71) (args := #[.agg #[.int .i64 fx, .int .i64 fy, .int .i64 (fw : Int), .int .i64 (fh : Int), .slice (some ⟨g1, 0, none⟩) (4 * M) (4 * M)], .agg #[.int .i64 fx, .int .i64 fy, .int .i64 (fw : Int), .int .i64 (fh : Int), .slice (some ⟨g2, 0, none⟩) (4 * M) (4 * M)]]) (run_go_call Try.func71 (by kernel_rfl) (by kernel_rfl) _ _ _ _ _ _ _ _ _ _ (by simp [Act.eval, e0, e1])) rfl ?_
                  refine (ref_Same_in _ _ _ _ _ _ _ _ _ _ _ zs zs2 wx (by omega) hd.out.1 hd.out.2.2.2.1 (fa.2.1.keep hE) (fb.2.1.keep hE)).mono ?_
                  rintro e w' ⟨rfl, hb⟩
                  exact ⟨_, rfl, rfl, hb⟩
                · refine grd_yes (j := 9) (b := true) rfl (hdep ⟨9, .guard⟩ (by simp) rfl) ?_
                  have e0 := slot_eq (hdep ⟨12, .data⟩ (by simp) rfl)
                  have e1 := slot_eq (hdep ⟨15, .data⟩ (by simp) rfl)
                  exact rel_pure _ rfl rfl (by simp [go_sem, e0, e1])
                · refine grd_none rfl ?_
                  have e0 := slot_eq (hdep ⟨9, .data⟩ (by simp) rfl)
                  have e1 := slot_eq (hdep ⟨16, .data⟩ (by simp) rfl)
                  exact rel_pure _ rfl rfl (by simp [go_sem, e0, e1])
              · intro t op ht hlt; cases hlt
              · intro vs wv2 hE hvs _
                have k17 : vs 17 = .bool true := hvs 17 (by omega)
                simp only [List.drop_succ_cons, List.drop_zero, putAll, dstAt, List.getElem?_toArray, List.getElem?_cons_zero, List.getElem?_cons_succ, Option.bind_some, Act.put, List.setIfInBounds_toArray, List.set_cons_zero, List.set_cons_succ, k17]
                clear hvs k17
                replace fa := fa.keep hE
                replace fb := fb.keep hE
                replace xR := xR.keep hE
                replace xP := xP.keep hE
                replace B := B.trans (hE.mono B.size)
                clear hE x23 x24 rq hgq
                go_wp2_with fail
                go_ret
                exact ⟨rfl, B⟩
            · have hne : Hid (¬ (fx = gx ∧ fy = gy ∧ (fw : Int) = gw ∧ (fh : Int) = gh)) := Lib.hid (fun hh => heq ⟨hh.1, hh.2.1, by omega, by omega⟩)
              clear heq
              refine wp_region_grd 18 (fun _ => false) (fun q u w' => if q = 6 then ∃ g c, u = .agg #[.int .i64 fx, .int .i64 fy, .int .i64 (fw : Int), .int .i64 (fh : Int), .slice (some ⟨g, 0, none⟩) (4 * M) c] ∧ wn.heap.size ≤ g ∧ Rd w' g 0 (madeL (pasteP zs zs2 fw gw i0 j0 i1 j1 cw ch) (4 * M)) else u = [.int .i64 0, .bool true, .bool true, .agg #[.int .i64 fx, .int .i64 fy, .int .i64 (fw : Int), .int .i64 (fh : Int), .slice (some ⟨gq, 0, none⟩) (4 * M) (4 * M)], .agg #[.int .i64 fx, .int .i64 fy, .int .i64 (fw : Int), .int .i64 (fh : Int), .slice (some ⟨g1, 0, none⟩) (4 * M) (4 * M)], .agg #[.int .i64 gx, .int .i64 gy, .int .i64 (gw : Int), .int .i64 (gh : Int), .slice (some ⟨g2, 0, none⟩) (4 * M2) (4 * M2)], undef, .bool true, .bool true, .bool true, .agg #[.int .i64 fx, .int .i64 fy, .int .i64 (fw : Int), .int .i64 (fh : Int), .slice (some ⟨g1, 0, none⟩) (4 * M) (4 * M)], .agg #[.int .i64 gx, .int .i64 gy, .int .i64 (gw : Int), .int .i64 (gh : Int), .slice (some ⟨g2, 0, none⟩) (4 * M2) (4 * M2)], .bool (false), .agg #[.int .i64 fx, .int .i64 fy, .int .i64 (fw : Int), .int .i64 (fh : Int), .slice (some ⟨g1, 0, none⟩) (4 * M) (4 * M)], .agg #[.int .i64 gx, .int .i64 gy, .int .i64 (gw : Int), .int .i64 (gh : Int), .slice (some ⟨g2, 0, none⟩) (4 * M2) (4 * M2)], .bool (false), .bool true, .bool true].getD q undef) (fun _ => false) (fun w' => Below wn.heap.size wn w') (by kernel_rfl) (by kernel_rfl) (fun _ _ _ _ _ h => h)
                (fun _ _ h e => e.trans (h.mono e.size)) (fun t u a' b' hb h => ?_) (Below.refl _ _).drew ?_ ?_ ?_
              · split
                · rename_i h4
                  rw [if_pos h4] at h
                  obtain ⟨g, c, e1, e2, e3⟩ := h
                  exact ⟨g, c, e1, e2, e3.keep hb⟩
                · rename_i h4
                  rw [if_neg h4] at h
                  exact h
              · intro t op ht hlt hop
                clear hlt
                rcases (by omega : t = 0 ∨ t = 1 ∨ t = 2 ∨ t = 3 ∨ t = 4 ∨ t = 5 ∨ t = 6 ∨ t = 7 ∨ t = 8 ∨ t = 9 ∨ t = 10 ∨ t = 11 ∨ t = 12 ∨ t = 13 ∨ t = 14 ∨ t = 15 ∨ t = 16 ∨ t = 17) with rfl | rfl | rfl | rfl | rfl | rfl | rfl | rfl | rfl | rfl | rfl | rfl | rfl | rfl | rfl | rfl | rfl | rfl
                all_goals simp only [List.getElem?_cons_zero, List.getElem?_cons_succ, Option.some.injEq] at hop
                all_goals subst hop
                all_goals intro a wx hE hag hdep
                · refine grd_none rfl ?_
                  have e0 := slot_eq (hag 14 rfl)
                  exact rel_pure _ rfl rfl (by simp [go_sem, e0])
                · refine grd_none rfl ?_
                  have e0 := slot_eq (hdep ⟨0, .data⟩ (by simp) rfl)
                  exact rel_pure _ rfl rfl (by simp [go_sem, e0])
                · refine grd_none rfl ?_
                  have e0 := slot_eq (hdep ⟨1, .data⟩ (by simp) rfl)
                  exact rel_pure _ rfl rfl (by simp [go_sem, e0])
                · refine grd_yes (j := 2) (b := true) rfl (hdep ⟨2, .guard⟩ (by simp) rfl) ?_
                  have e0 := slot_eq (hag 23 rfl)
                  have hq := (x23.keep hE).all.1
                  exact rel_pure _ rfl rfl (by simp [go_sem, e0, hq])
                · refine grd_yes (j := 2) (b := true) rfl (hdep ⟨2, .guard⟩ (by simp) rfl) ?_
                  have e0 := slot_eq (hag 6 rfl)
                  have hq := (fa.1.keep hE).all.1
                  exact rel_pure _ rfl rfl (by simp [go_sem, e0, hq])
                · refine grd_yes (j := 2) (b := true) rfl (hdep ⟨2, .guard⟩ (by simp) rfl) ?_
                  have e0 := slot_eq (hag 7 rfl)
                  have hq := (fb.1.keep hE).all.1
                  exact rel_pure _ rfl rfl (by simp [go_sem, e0, hq])
                · refine grd_yes (j := 2) (b := true) rfl (hdep ⟨2, .guard⟩ (by simp) rfl) ?_
                  have e0 := slot_eq (hdep ⟨4, .data⟩ (by simp) rfl)
                  have e1 := slot_eq (hdep ⟨5, .data⟩ (by simp) rfl)
                  refine rel_call (f := 66) (args := #[.agg #[.int .i64 fx, .int .i64 fy, .int .i64 (fw : Int), .int .i64 (fh : Int), .slice (some ⟨g1, 0, none⟩) (4 * M) (4 * M)], .agg #[.int .i64 gx, .int .i64 gy, .int .i64 (gw : Int), .int .i64 (gh : Int), .slice (some ⟨g2, 0, none⟩) (4 * M2) (4 * M2)]]) (run_go_call Try.func66 (by kernel_rfl) (by kernel_rfl) _ _ _ _ _ _ _ _ _ _ (by simp [Act.eval, e0, e1])) rfl ?_
                  refine (ref_Paste fx fy gx gy fw fh gw gh i0 j0 i1 j1 cw ch g1 0 (4 * M) (4 * M) g2 0 (4 * M2) (4 * M2) zs zs2 wx (by omega) (by omega) (by omega) (by omega) (by omega) (by omega) (by omega) (by omega) (by omega) (by omega) (by omega) (by omega) (by omega) (by omega) (by omega) (by omega) Hm.out.1 (by rw [hd.out.2.2.1]) (Nat.le_refl _) hd.out.1 (fa.2.1.keep hE) (by rw [hd.out.2.2.2.2.2]) (Nat.le_refl _) hd.out.2.2.2.1 (fb.2.1.keep hE)).mono ?_
                  rintro e w' ⟨g, c, rfl, hcc, hg, hrd, hb⟩
                  rw [← hd.out.2.2.1] at hrd
                  exact ⟨_, rfl, ⟨g, c, by rw [hd.out.2.2.1], Nat.le_trans hE.size hg, hrd⟩, hb⟩
                · refine grd_yes (j := 2) (b := true) rfl (hdep ⟨2, .guard⟩ (by simp) rfl) ?_
                  have e0 := slot_eq (hdep ⟨3, .data⟩ (by simp) rfl)
                  obtain ⟨g, c, e1, hg, hrd⟩ := hdep ⟨6, .data⟩ (by simp) rfl
                  have e1 := slot_eq e1
                  refine rel_call (f := 29) (args := #[.agg #[.int .i64 fx, .int .i64 fy, .int .i64 (fw : Int), .int .i64 (fh : Int), .slice (some ⟨gq, 0, none⟩) (4 * M) (4 * M)], .agg #[.int .i64 fx, .int .i64 fy, .int .i64 (fw : Int), .int .i64 (fh : Int), .slice (some ⟨g, 0, none⟩) (4 * M) c]]) (run_go_call Try.func29 (by kernel_rfl) (by kernel_rfl) _ _ _ _ _ _ _ _ _ _ (by simp [Act.eval, e0, e1])) rfl ?_
                  refine (ref_SameFrame _ _ _ _ _ _ _ _ _ _ _ _ wx (by omega) (madeL_len _ _) (rq.keep hE) hrd).mono ?_
                  rintro e w' ⟨rfl, hb⟩
                  exact ⟨_, rfl, rfl, hb⟩
                · refine grd_none rfl ?_
                  have e0 := slot_eq (hdep ⟨2, .data⟩ (by simp) rfl)
                  have e1 := slot_eq (hdep ⟨7, .data⟩ (by simp) rfl)
                  exact rel_pure _ rfl rfl (by simp [go_sem, e0, e1])
                · refine grd_none rfl ?_
                  have e0 := slot_eq (hdep ⟨8, .data⟩ (by simp) rfl)
                  exact rel_pure _ rfl rfl (by simp [go_sem, e0])
                · refine grd_yes (j := 9) (b := true) rfl (hdep ⟨9, .guard⟩ (by simp) rfl) ?_
                  have e0 := slot_eq (hag 6 rfl)
                  have hq := (fa.1.keep hE).all.1
                  exact rel_pure _ rfl rfl (by simp [go_sem, e0, hq])
                · refine grd_yes (j := 9) (b := true) rfl (hdep ⟨9, .guard⟩ (by simp) rfl) ?_
                  have e0 := slot_eq (hag 7 rfl)
                  have hq := (fb.1.keep hE).all.1
                  exact rel_pure _ rfl rfl (by simp [go_sem, e0, hq])
                · refine grd_yes (j := 9) (b := true) rfl (hdep ⟨9, .guard⟩ (by simp) rfl) ?_
                  have e0 := slot_eq (hdep ⟨10, .data⟩ (by simp) rfl)
                  have e1 := slot_eq (hdep ⟨11, .data⟩ (by simp) rfl)
                  refine rel_call (f := 70) (args := #[.agg #[.int .i64 fx, .int .i64 fy, .int .i64 (fw : Int), .int .i64 (fh : Int), .slice (some ⟨g1, 0, none⟩) (4 * M) (4 * M)], .agg #[.int .i64 gx, .int .i64 gy, .int .i64 (gw : Int), .int .i64 (gh : Int), .slice (some ⟨g2, 0, none⟩) (4 * M2) (4 * M2)]]) (run_go_call Try.func70 (by kernel_rfl) (by kernel_rfl) _ _ _ _ _ _ _ _ _ _ (by simp [Act.eval, e0, e1])) rfl ?_
                  refine (frame_Same_off _ _ _ _ _ _ _ _ _ _ _ _ _ _ wx (fun hh => hne.out hh.1)).mono ?_
                  rintro e w' ⟨rfl, hb⟩
                  exact ⟨_, rfl, rfl, hb⟩
                · refine grd_yes (j := 9) (b := true) rfl (hdep ⟨9, .guard⟩ (by simp) rfl) ?_
                  have e0 := slot_eq (hag 6 rfl)
                  have hq := (fa.1.keep hE).all.1
                  exact rel_pure _ rfl rfl (by simp [go_sem, e0, hq])
                · refine grd_yes (j := 9) (b := true) rfl (hdep ⟨9, .guard⟩ (by simp) rfl) ?_
                  have e0 := slot_eq (hag 7 rfl)
                  have hq := (fb.1.keep hE).all.1
                  exact rel_pure _ rfl rfl (by simp [go_sem, e0, hq])
                · refine grd_yes (j := 9) (b := true) rfl (hdep ⟨9, .guard⟩ (by simp) rfl) ?_
                  have e0 := slot_eq (hdep ⟨13, .data⟩ (by simp) rfl)
                  have e1 := slot_eq (hdep ⟨14, .data⟩ (by simp) rfl)
                  refine rel_call (f := 71) (args := #[.agg #[.int .i64 fx, .int .i64 fy, .int .i64 (fw : Int), .int .i64 (fh : Int), .slice (some ⟨g1, 0, none⟩) (4 * M) (4 * M)], .agg #[.int .i64 gx, .int .i64 gy, .int .i64 (gw : Int), .int .i64 (gh : Int), .slice (some ⟨g2, 0, none⟩) (4 * M2) (4 * M2)]]) (run_go_call Try.func71 (by kernel_rfl) (by kernel_rfl) _ _ _ _ _ _ _ _ _ _ (by simp [Act.eval, e0, e1])) rfl ?_
                  refine (ref_Same_off _ _ _ _ _ _ _ _ _ _ _ _ _ _ wx (fun hh => hne.out hh.1)).mono ?_
                  rintro e w' ⟨rfl, hb⟩
                  exact ⟨_, rfl, rfl, hb⟩
                · refine grd_yes (j := 9) (b := true) rfl (hdep ⟨9, .guard⟩ (by simp) rfl) ?_
                  have e0 := slot_eq (hdep ⟨12, .data⟩ (by simp) rfl)
                  have e1 := slot_eq (hdep ⟨15, .data⟩ (by simp) rfl)
                  exact rel_pure _ rfl rfl (by simp [go_sem, e0, e1])
                · refine grd_none rfl ?_
                  have e0 := slot_eq (hdep ⟨9, .data⟩ (by simp) rfl)
                  have e1 := slot_eq (hdep ⟨16, .data⟩ (by simp) rfl)
                  exact rel_pure _ rfl rfl (by simp [go_sem, e0, e1])
              · intro t op ht hlt; cases hlt
              · intro vs wv2 hE hvs _
                have k17 : vs 17 = .bool true := hvs 17 (by omega)
                simp only [List.drop_succ_cons, List.drop_zero, putAll, dstAt, List.getElem?_toArray, List.getElem?_cons_zero, List.getElem?_cons_succ, Option.bind_some, Act.put, List.setIfInBounds_toArray, List.set_cons_zero, List.set_cons_succ, k17]
                clear hvs k17
                replace fa := fa.keep hE
                replace fb := fb.keep hE
                replace xR := xR.keep hE
                replace xP := xP.keep hE
                replace B := B.trans (hE.mono B.size)
                clear hE x23 x24 rq hgq
                go_wp2_with fail
                go_ret
                exact ⟨rfl, B⟩
          · have Hm := Lib.hid hcm
            clear hcm
            refine (frame_Paste_place fx fy gx gy fw fh gw gh g1 0 (4 * M) (4 * M) g2 0 (4 * M2) (4 * M2) zs zs2 _ fa.chk fa.reg fb.chk fb.reg (by rw [hd.out.2.2.1]) hd.out.1 fa.2.1 (by rw [hd.out.2.2.2.2.2]) hd.out.2.2.2.1 fb.2.1 Hm.out).mono ?_
            rintro e wv ⟨rfl, hb⟩
            replace fa := fa.keep hb
            replace fb := fb.keep hb
            replace xR := xR.keep hb
            replace xP := xP.keep hb
            replace B := bcall B hb
            clear hb
            obtain ⟨q0, f0, l0⟩ := fa.1.all
            obtain ⟨q1, f1, l1⟩ := fb.1.all
            obtain ⟨q2, f2, l2⟩ := xR.all
            obtain ⟨q3, f3, l3⟩ := xP.all
            go_wp2_with fail
            refine nm_call ?_
            intro wn hwn
            have x23 : Bx wn wv.heap.size 26 #[.int .i64 0, .int .i64 0, .int .i64 0, .int .i64 0, .slice none 0 0] := by rw [hwn]; exact Bx.new _ _ _
            have hb : Below wv.heap.size wv wn := by rw [hwn]; exact bnew (Below.refl _ _)
            clear q0 f0 l0 q1 f1 l1 q2 f2 l2 q3 f3 l3
            replace fa := fa.keep hb
            replace fb := fb.keep hb
            replace xR := xR.keep hb
            replace xP := xP.keep hb
            replace B := bcall B hb
            clear hwn hb
            generalize wv.heap.size = p23 at *
            refine (ref_Common_at _ _ _ _ _ _ _ _ _ _ _ _ _ Hm.out _ (by omega) (by omega) (by omega) (by omega) (by omega) (by omega) (by omega) (by omega) (by omega) (by omega) (by omega) (by omega) (by omega) (by omega) (by omega) (by omega)).mono ?_
            rintro e wv ⟨rfl, hb⟩
            replace fa := fa.keep hb
            replace fb := fb.keep hb
            replace xR := xR.keep hb
            replace xP := xP.keep hb
            replace x23 := x23.keep hb
            replace B := bcall B hb
            clear hb
            obtain ⟨q0, f0, l0⟩ := fa.1.all
            obtain ⟨q1, f1, l1⟩ := fb.1.all
            obtain ⟨q2, f2, l2⟩ := xR.all
            obtain ⟨q3, f3, l3⟩ := xP.all
            obtain ⟨q4, f4, l4⟩ := x23.all
            go_wp2_with fail
            go_ret
            exact ⟨rfl, bnew B⟩
        · obtain ⟨i, j, hpi, hpj, hij⟩ : ∃ i j : Nat, pu = fx + i ∧ pv = fy + j ∧ i < fw ∧ j < fh := by
            unfold inB at hI
            simp only [Bool.and_eq_true, decide_eq_true_eq] at hI
            exact ⟨(pu - fx).toNat, (pv - fy).toNat, by omega, by omega, by omega, by omega⟩
          subst hpi hpj
          have hi := Lib.hid hI
          clear hI
          obtain ⟨q0, f0, l0⟩ := fa.1.all
          obtain ⟨q1, f1, l1⟩ := fb.1.all
          obtain ⟨q2, f2, l2⟩ := xR.all
          obtain ⟨q3, f3, l3⟩ := xP.all
          go_wp2_with fail
          refine (ref_Inside_is _ _ _ _ _ _ _ _ true hi.out _ (by omega) (by omega) (by omega) (by omega) (by omega) (by omega) (by omega) (by omega) (by omega) (by omega) (by omega) (by omega)).mono ?_
          rintro e wv ⟨rfl, hb⟩
          clear q0 f0 l0 q1 f1 l1 q2 f2 l2 q3 f3 l3
          replace fa := fa.keep hb
          replace fb := fb.keep hb
          replace xR := xR.keep hb
          replace xP := xP.keep hb
          replace B := bcall B hb
          clear hb
          obtain ⟨q0, f0, l0⟩ := fa.1.all
          obtain ⟨q1, f1, l1⟩ := fb.1.all
          obtain ⟨q2, f2, l2⟩ := xR.all
          obtain ⟨q3, f3, l3⟩ := xP.all
          go_wp2_with fail
          refine (frame_At_in fx fy fw fh i j g1 0 (4 * M) (4 * M) M zs _ fa.chk fa.reg hd.out.2.2.1 rfl (Nat.le_refl _) hij.1 hij.2 hd.out.1 fa.2.1).mono ?_
          rintro e wv ⟨rfl, hb⟩
          clear q0 f0 l0 q1 f1 l1 q2 f2 l2 q3 f3 l3
          replace fa := fa.keep hb
          replace fb := fb.keep hb
          replace xR := xR.keep hb
          replace xP := xP.keep hb
          replace B := bcall B hb
          clear hb
          have hx17 : W.heap.size + 1 + 1 + 1 < wv.heap.size := xP.lt
          obtain ⟨q0, f0, l0⟩ := fa.1.all
          obtain ⟨q1, f1, l1⟩ := fb.1.all
          obtain ⟨q2, f2, l2⟩ := xR.all
          obtain ⟨q3, f3, l3⟩ := xP.all
          go_wp2_with fail
          refine nm_call ?_
          intro wn hwn
          have x17 : Bx wn wv.heap.size 35 #[.float .f32 (canon (zs.getD (4 * (j * fw + i) + 0) 0)), .float .f32 (canon (zs.getD (4 * (j * fw + i) + 1) 0)), .float .f32 (canon (zs.getD (4 * (j * fw + i) + 2) 0)), .float .f32 (canon (zs.getD (4 * (j * fw + i) + 3) 0))] := by rw [hwn]; exact Bx.new _ _ _
          have hb : Below wv.heap.size wv wn := by rw [hwn]; exact bnew (Below.refl _ _)
          clear q0 f0 l0 q1 f1 l1 q2 f2 l2 q3 f3 l3
          replace fa := fa.keep hb
          replace fb := fb.keep hb
          replace xR := xR.keep hb
          replace xP := xP.keep hb
          replace B := bcall B hb
          clear hwn hb
          generalize wv.heap.size = p17 at *
          refine (frame_Put_in fx fy fw fh i j g1 0 (4 * M) (4 * M) M zs F _ fa.chk fa.reg hd.out.2.2.1 rfl hij.1 hij.2 hd.out.1 fa.2.1).mono ?_
          rintro e wv ⟨gp, rfl, hgp, rowp, hb⟩
          replace fa := fa.keep hb
          replace fb := fb.keep hb
          replace xR := xR.keep hb
          replace xP := xP.keep hb
          replace x17 := x17.keep hb
          replace B := bcall B hb
          clear hb
          have rput := rowp.rd
          clear rowp
          have hx18 : p17 < wv.heap.size := x17.lt
          obtain ⟨q0, f0, l0⟩ := fa.1.all
          obtain ⟨q1, f1, l1⟩ := fb.1.all
          obtain ⟨q2, f2, l2⟩ := xR.all
          obtain ⟨q3, f3, l3⟩ := xP.all
          obtain ⟨q4, f4, l4⟩ := x17.all
          go_wp2_with fail
          refine nm_call ?_
          intro wn hwn
          have x18 : Bx wn wv.heap.size 26 #[.int .i64 fx, .int .i64 fy, .int .i64 (fw : Int), .int .i64 (fh : Int), .slice (some ⟨gp, 0, none⟩) (4 * M) (4 * M)] := by rw [hwn]; exact Bx.new _ _ _
          have hb : Below wv.heap.size wv wn := by rw [hwn]; exact bnew (Below.refl _ _)
          clear q0 f0 l0 q1 f1 l1 q2 f2 l2 q3 f3 l3 q4 f4 l4
          replace fa := fa.keep hb
          replace fb := fb.keep hb
          replace xR := xR.keep hb
          replace xP := xP.keep hb
          replace x17 := x17.keep hb
          replace rput := rput.keep hb
          replace B := bcall B hb
          clear hwn hb
          generalize wv.heap.size = p18 at *
          refine (ref_PixelAt_lit fx fy fw fh (fx + (i : Int)) (fy + (j : Int)) g1 0 (4 * M) (4 * M) (j * fw + i) zs _ (pixNo_at fx fy fw fh i j hij.1 hij.2) (by omega) (by omega) (by omega) (by omega) (by omega) (by omega) (by omega) (by omega) (by have := hd.out.2.1; rw [Int.mul_assoc, ← this]; omega) (Nat.le_refl _) hd.out.1 fa.2.1).mono ?_
          rintro e wv ⟨rfl, hb⟩
          replace fa := fa.keep hb
          replace fb := fb.keep hb
          replace xR := xR.keep hb
          replace xP := xP.keep hb
          replace x17 := x17.keep hb
          replace x18 := x18.keep hb
          replace rput := rput.keep hb
          replace B := bcall B hb
          clear hb
          have hx20 : p18 < wv.heap.size := x18.lt
          obtain ⟨q0, f0, l0⟩ := fa.1.all
          obtain ⟨q1, f1, l1⟩ := fb.1.all
          obtain ⟨q2, f2, l2⟩ := xR.all
          obtain ⟨q3, f3, l3⟩ := xP.all
          obtain ⟨q4, f4, l4⟩ := x17.all
          obtain ⟨q5, f5, l5⟩ := x18.all
          go_wp2_with fail
          refine nm_call ?_
          intro wn hwn
          have x20 : Bx wn wv.heap.size 35 #[.float .f32 (zs.getD (4 * (j * fw + i)) 0), .float .f32 (zs.getD (4 * (j * fw + i) + 1) 0), .float .f32 (zs.getD (4 * (j * fw + i) + 2) 0), .float .f32 (zs.getD (4 * (j * fw + i) + 3) 0)] := by rw [hwn]; exact Bx.new _ _ _
          have hb : Below wv.heap.size wv wn := by rw [hwn]; exact bnew (Below.refl _ _)
          clear q0 f0 l0 q1 f1 l1 q2 f2 l2 q3 f3 l3 q4 f4 l4 q5 f5 l5
          replace fa := fa.keep hb
          replace fb := fb.keep hb
          replace xR := xR.keep hb
          replace xP := xP.keep hb
          replace x17 := x17.keep hb
          replace x18 := x18.keep hb
          replace rput := rput.keep hb
          replace B := bcall B hb
          clear hwn hb
          generalize wv.heap.size = p20 at *
          refine (ref_Made (fx + (i : Int)) (fy + (j : Int)) 1 1 1 _ _ _ _ rfl (by omega) (by omega) (by omega) (by omega) (by omega) (by omega) (by omega) (by omega) (by omega) (const_makes2 _ _ 1 1 _ _ F _ xP)).mono ?_
          rintro e wv ⟨go, ko, rfl, hko, hgo, rone, hb⟩
          replace fa := fa.keep hb
          replace fb := fb.keep hb
          replace xR := xR.keep hb
          replace xP := xP.keep hb
          replace x17 := x17.keep hb
          replace x18 := x18.keep hb
          replace x20 := x20.keep hb
          replace rput := rput.keep hb
          replace B := bcall B hb
          clear hb
          have hx21 : p20 < wv.heap.size := x20.lt
          obtain ⟨q0, f0, l0⟩ := fa.1.all
          obtain ⟨q1, f1, l1⟩ := fb.1.all
          obtain ⟨q2, f2, l2⟩ := xR.all
          obtain ⟨q3, f3, l3⟩ := xP.all
          obtain ⟨q4, f4, l4⟩ := x17.all
          obtain ⟨q5, f5, l5⟩ := x18.all
          obtain ⟨q6, f6, l6⟩ := x20.all
          go_wp2_with fail
          refine name_world ?_
          intro wn hwn
          have x21 : Bx wn wv.heap.size 26 #[.int .i64 (fx + (i : Int)), .int .i64 (fy + (j : Int)), .int .i64 1, .int .i64 1, .slice (some ⟨go, 0, none⟩) (4 * 1) ko] := by rw [hwn]; exact Bx.new _ _ _
          have hb : Below wv.heap.size wv wn := by rw [hwn]; exact bnew (Below.refl _ _)
          clear q0 f0 l0 q1 f1 l1 q2 f2 l2 q3 f3 l3 q4 f4 l4 q5 f5 l5 q6 f6 l6
          replace fa := fa.keep hb
          replace fb := fb.keep hb
          replace xR := xR.keep hb
          replace xP := xP.keep hb
          replace x17 := x17.keep hb
          replace x18 := x18.keep hb
          replace x20 := x20.keep hb
          replace rput := rput.keep hb
          replace rone := rone.keep hb
          replace B := bcall B hb
          clear hwn hb
          generalize wv.heap.size = p21 at *
          refine wp_region_grd 31 (fun _ => false) (fun q u w' => if q = 28 then ∃ g c, u = .agg #[.int .i64 fx, .int .i64 fy, .int .i64 (fw : Int), .int .i64 (fh : Int), .slice (some ⟨g, 0, none⟩) (4 * M) c] ∧ wn.heap.size ≤ g ∧ Rd w' g 0 (madeL (pasteP zs (madeL (fun _ c => F c) (4 * 1)) fw 1 i j 0 0 1 1) (4 * M)) else u = [.int .i64 0, .bool false, .bool false, .int .i64 0, .bool false, .bool false, .bool false, .pointer (some ⟨p17, 0, none⟩), .float .f32 (canon (zs.getD (4 * (j * fw + i)) 0)), .pointer (some ⟨p20, 0, none⟩), .float .f32 (zs.getD (4 * (j * fw + i)) 0), .float .f32 (canon (zs.getD (4 * (j * fw + i)) 0)), .bool true, .bool false, .bool false, .bool false, .pointer (some ⟨p17, 3, none⟩), .float .f32 (canon (zs.getD (4 * (j * fw + i) + 3) 0)), .pointer (some ⟨p20, 3, none⟩), .float .f32 (zs.getD (4 * (j * fw + i) + 3) 0), .float .f32 (canon (zs.getD (4 * (j * fw + i) + 3) 0)), .bool true, .bool false, .bool false, .bool false, .agg #[.int .i64 fx, .int .i64 fy, .int .i64 (fw : Int), .int .i64 (fh : Int), .slice (some ⟨gp, 0, none⟩) (4 * M) (4 * M)], .agg #[.int .i64 fx, .int .i64 fy, .int .i64 (fw : Int), .int .i64 (fh : Int), .slice (some ⟨g1, 0, none⟩) (4 * M) (4 * M)], .agg #[.int .i64 (fx + (i : Int)), .int .i64 (fy + (j : Int)), .int .i64 1, .int .i64 1, .slice (some ⟨go, 0, none⟩) (4 * 1) ko], undef, .bool true, .bool false].getD q undef) (fun _ => false) (fun w' => Below wn.heap.size wn w') (by kernel_rfl) (by kernel_rfl) (fun _ _ _ _ _ h => h)
            (fun _ _ h e => e.trans (h.mono e.size)) (fun t u a' b' hb h => ?_) (Below.refl _ _).drew ?_ ?_ ?_
          · split
            · rename_i h4
              rw [if_pos h4] at h
              obtain ⟨g, c, e1, e2, e3⟩ := h
              exact ⟨g, c, e1, e2, e3.keep hb⟩
            · rename_i h4
              rw [if_neg h4] at h
              exact h
          · intro t op ht hlt hop
            clear hlt
            rcases (by omega : t = 0 ∨ t = 1 ∨ t = 2 ∨ t = 3 ∨ t = 4 ∨ t = 5 ∨ t = 6 ∨ t = 7 ∨ t = 8 ∨ t = 9 ∨ t = 10 ∨ t = 11 ∨ t = 12 ∨ t = 13 ∨ t = 14 ∨ t = 15 ∨ t = 16 ∨ t = 17 ∨ t = 18 ∨ t = 19 ∨ t = 20 ∨ t = 21 ∨ t = 22 ∨ t = 23 ∨ t = 24 ∨ t = 25 ∨ t = 26 ∨ t = 27 ∨ t = 28 ∨ t = 29 ∨ t = 30) with rfl | rfl | rfl | rfl | rfl | rfl | rfl | rfl | rfl | rfl | rfl | rfl | rfl | rfl | rfl | rfl | rfl | rfl | rfl | rfl | rfl | rfl | rfl | rfl | rfl | rfl | rfl | rfl | rfl | rfl | rfl
            all_goals simp only [List.getElem?_cons_zero, List.getElem?_cons_succ, Option.some.injEq] at hop
            all_goals subst hop
            all_goals intro a wx hE hag hdep
            · refine grd_none rfl ?_
              have e0 := slot_eq (hag 14 rfl)
              exact rel_pure _ rfl rfl (by simp [go_sem, e0])
            · refine grd_none rfl ?_
              have e0 := slot_eq (hdep ⟨0, .data⟩ (by simp) rfl)
              exact rel_pure _ rfl rfl (by simp [go_sem, e0])
            · refine grd_none rfl ?_
              have e0 := slot_eq (hdep ⟨1, .data⟩ (by simp) rfl)
              exact rel_pure _ rfl rfl (by simp [go_sem, e0])
            · refine grd_yes (j := 2) (b := false) rfl (hdep ⟨2, .guard⟩ (by simp) rfl) ?_
              have e0 := slot_eq (hag 19 rfl)
              exact rel_pure _ rfl rfl (by simp [go_sem, e0])
            · refine grd_yes (j := 2) (b := false) rfl (hdep ⟨2, .guard⟩ (by simp) rfl) ?_
              have e0 := slot_eq (hdep ⟨3, .data⟩ (by simp) rfl)
              exact rel_pure _ rfl rfl (by simp [go_sem, e0])
            · refine grd_none rfl ?_
              have e0 := slot_eq (hdep ⟨2, .data⟩ (by simp) rfl)
              have e1 := slot_eq (hdep ⟨4, .data⟩ (by simp) rfl)
              exact rel_pure _ rfl rfl (by simp [go_sem, e0, e1])
            · refine grd_none rfl ?_
              have e0 := slot_eq (hdep ⟨5, .data⟩ (by simp) rfl)
              exact rel_pure _ rfl rfl (by simp [go_sem, e0])
            · refine grd_yes (j := 6) (b := false) rfl (hdep ⟨6, .guard⟩ (by simp) rfl) ?_
              have e0 := slot_eq (hag 17 rfl)
              exact rel_pure _ rfl rfl (by simp [go_sem, e0])
            · refine grd_yes (j := 6) (b := false) rfl (hdep ⟨6, .guard⟩ (by simp) rfl) ?_
              have e0 := slot_eq (hdep ⟨7, .data⟩ (by simp) rfl)
              have hq := (x17.keep hE).all.1 0
              exact rel_pure _ rfl rfl (by simp [go_sem, e0, hq])
            · refine grd_yes (j := 6) (b := false) rfl (hdep ⟨6, .guard⟩ (by simp) rfl) ?_
              have e0 := slot_eq (hag 20 rfl)
              exact rel_pure _ rfl rfl (by simp [go_sem, e0])
            · refine grd_yes (j := 6) (b := false) rfl (hdep ⟨6, .guard⟩ (by simp) rfl) ?_
              have e0 := slot_eq (hdep ⟨9, .data⟩ (by simp) rfl)
              have hq := (x20.keep hE).all.1 0
              exact rel_pure _ rfl rfl (by simp [go_sem, e0, hq])
            · refine grd_yes (j := 6) (b := false) rfl (hdep ⟨6, .guard⟩ (by simp) rfl) ?_
              have e0 := slot_eq (hdep ⟨10, .data⟩ (by simp) rfl)
              refine rel_call (f := 65) (args := #[.float .f32 (zs.getD (4 * (j * fw + i)) 0)]) (run_go_call Try.func65 (by kernel_rfl) (by kernel_rfl) _ _ _ _ _ _ _ _ _ _ (by simp [Act.eval, e0])) rfl ?_
              refine (ref_Fix _ wx).mono ?_
              rintro e w' ⟨rfl, rfl⟩
              exact ⟨_, rfl, rfl, Below.refl _ _⟩
            · refine grd_yes (j := 6) (b := false) rfl (hdep ⟨6, .guard⟩ (by simp) rfl) ?_
              have e0 := slot_eq (hdep ⟨8, .data⟩ (by simp) rfl)
              have e1 := slot_eq (hdep ⟨11, .data⟩ (by simp) rfl)
              refine rel_call (f := 24) (args := #[.float .f32 (canon (zs.getD (4 * (j * fw + i)) 0)), .float .f32 (canon (zs.getD (4 * (j * fw + i)) 0))]) (run_go_call Try.func24 (by kernel_rfl) (by kernel_rfl) _ _ _ _ _ _ _ _ _ _ (by simp [Act.eval, e0, e1])) rfl ?_
              refine (law_exact_same _ wx).mono ?_
              rintro e w' ⟨rfl, rfl⟩
              exact ⟨_, rfl, rfl, Below.refl _ _⟩
            · refine grd_yes (j := 6) (b := false) rfl (hdep ⟨6, .guard⟩ (by simp) rfl) ?_
              have e0 := slot_eq (hdep ⟨12, .data⟩ (by simp) rfl)
              exact rel_pure _ rfl rfl (by simp [go_sem, e0])
            · refine grd_none rfl ?_
              have e0 := slot_eq (hdep ⟨6, .data⟩ (by simp) rfl)
              have e1 := slot_eq (hdep ⟨13, .data⟩ (by simp) rfl)
              exact rel_pure _ rfl rfl (by simp [go_sem, e0, e1])
            · refine grd_none rfl ?_
              have e0 := slot_eq (hdep ⟨14, .data⟩ (by simp) rfl)
              exact rel_pure _ rfl rfl (by simp [go_sem, e0])
            · refine grd_yes (j := 15) (b := false) rfl (hdep ⟨15, .guard⟩ (by simp) rfl) ?_
              have e0 := slot_eq (hag 17 rfl)
              exact rel_pure _ rfl rfl (by simp [go_sem, e0])
            · refine grd_yes (j := 15) (b := false) rfl (hdep ⟨15, .guard⟩ (by simp) rfl) ?_
              have e0 := slot_eq (hdep ⟨16, .data⟩ (by simp) rfl)
              have hq := (x17.keep hE).all.1 3
              exact rel_pure _ rfl rfl (by simp [go_sem, e0, hq])
            · refine grd_yes (j := 15) (b := false) rfl (hdep ⟨15, .guard⟩ (by simp) rfl) ?_
              have e0 := slot_eq (hag 20 rfl)
              exact rel_pure _ rfl rfl (by simp [go_sem, e0])
            · refine grd_yes (j := 15) (b := false) rfl (hdep ⟨15, .guard⟩ (by simp) rfl) ?_
              have e0 := slot_eq (hdep ⟨18, .data⟩ (by simp) rfl)
              have hq := (x20.keep hE).all.1 3
              exact rel_pure _ rfl rfl (by simp [go_sem, e0, hq])
            · refine grd_yes (j := 15) (b := false) rfl (hdep ⟨15, .guard⟩ (by simp) rfl) ?_
              have e0 := slot_eq (hdep ⟨19, .data⟩ (by simp) rfl)
              refine rel_call (f := 65) (args := #[.float .f32 (zs.getD (4 * (j * fw + i) + 3) 0)]) (run_go_call Try.func65 (by kernel_rfl) (by kernel_rfl) _ _ _ _ _ _ _ _ _ _ (by simp [Act.eval, e0])) rfl ?_
              refine (ref_Fix _ wx).mono ?_
              rintro e w' ⟨rfl, rfl⟩
              exact ⟨_, rfl, rfl, Below.refl _ _⟩
            · refine grd_yes (j := 15) (b := false) rfl (hdep ⟨15, .guard⟩ (by simp) rfl) ?_
              have e0 := slot_eq (hdep ⟨17, .data⟩ (by simp) rfl)
              have e1 := slot_eq (hdep ⟨20, .data⟩ (by simp) rfl)
              refine rel_call (f := 24) (args := #[.float .f32 (canon (zs.getD (4 * (j * fw + i) + 3) 0)), .float .f32 (canon (zs.getD (4 * (j * fw + i) + 3) 0))]) (run_go_call Try.func24 (by kernel_rfl) (by kernel_rfl) _ _ _ _ _ _ _ _ _ _ (by simp [Act.eval, e0, e1])) rfl ?_
              refine (law_exact_same _ wx).mono ?_
              rintro e w' ⟨rfl, rfl⟩
              exact ⟨_, rfl, rfl, Below.refl _ _⟩
            · refine grd_yes (j := 15) (b := false) rfl (hdep ⟨15, .guard⟩ (by simp) rfl) ?_
              have e0 := slot_eq (hdep ⟨21, .data⟩ (by simp) rfl)
              exact rel_pure _ rfl rfl (by simp [go_sem, e0])
            · refine grd_none rfl ?_
              have e0 := slot_eq (hdep ⟨15, .data⟩ (by simp) rfl)
              have e1 := slot_eq (hdep ⟨22, .data⟩ (by simp) rfl)
              exact rel_pure _ rfl rfl (by simp [go_sem, e0, e1])
            · refine grd_none rfl ?_
              have e0 := slot_eq (hdep ⟨23, .data⟩ (by simp) rfl)
              exact rel_pure _ rfl rfl (by simp [go_sem, e0])
            · refine grd_yes (j := 24) (b := false) rfl (hdep ⟨24, .guard⟩ (by simp) rfl) ?_
              have e0 := slot_eq (hag 18 rfl)
              have hq := (x18.keep hE).all.1
              exact rel_pure _ rfl rfl (by simp [go_sem, e0, hq])
            · refine grd_yes (j := 24) (b := false) rfl (hdep ⟨24, .guard⟩ (by simp) rfl) ?_
              have e0 := slot_eq (hag 6 rfl)
              have hq := (fa.1.keep hE).all.1
              exact rel_pure _ rfl rfl (by simp [go_sem, e0, hq])
            · refine grd_yes (j := 24) (b := false) rfl (hdep ⟨24, .guard⟩ (by simp) rfl) ?_
              have e0 := slot_eq (hag 21 rfl)
              have hq := (x21.keep hE).all.1
              exact rel_pure _ rfl rfl (by simp [go_sem, e0, hq])
            · refine grd_yes (j := 24) (b := false) rfl (hdep ⟨24, .guard⟩ (by simp) rfl) ?_
              have e0 := slot_eq (hdep ⟨26, .data⟩ (by simp) rfl)
              have e1 := slot_eq (hdep ⟨27, .data⟩ (by simp) rfl)
              refine rel_call (f := 66) (args := #[.agg #[.int .i64 fx, .int .i64 fy, .int .i64 (fw : Int), .int .i64 (fh : Int), .slice (some ⟨g1, 0, none⟩) (4 * M) (4 * M)], .agg #[.int .i64 (fx + (i : Int)), .int .i64 (fy + (j : Int)), .int .i64 1, .int .i64 1, .slice (some ⟨go, 0, none⟩) (4 * 1) ko]]) (run_go_call Try.func66 (by kernel_rfl) (by kernel_rfl) _ _ _ _ _ _ _ _ _ _ (by simp [Act.eval, e0, e1])) rfl ?_
              refine (ref_Paste fx fy (fx + (i : Int)) (fy + (j : Int)) fw fh 1 1 i j 0 0 1 1 g1 0 (4 * M) (4 * M) go 0 (4 * 1) ko zs _ wx (by omega) (by omega) (by omega) (by omega) (by omega) (by omega) (by omega) (by omega) (by omega) (by omega) (by omega) (by omega) (by omega) (by omega) (by omega) (by omega) ⟨by omega, by omega, by omega, by omega, by omega, by omega, by omega, by omega, .inr rfl, .inr rfl, .inr rfl, .inr rfl⟩ (by rw [hd.out.2.2.1]) (Nat.le_refl _) hd.out.1 (fa.2.1.keep hE) rfl hko (madeL_len _ _) (rone.keep hE)).mono ?_
              rintro e w' ⟨g, c, rfl, hcc, hg, hrd, hb⟩
              rw [← hd.out.2.2.1] at hrd
              exact ⟨_, rfl, ⟨g, c, by rw [hd.out.2.2.1], Nat.le_trans hE.size hg, hrd⟩, hb⟩
            · refine grd_yes (j := 24) (b := false) rfl (hdep ⟨24, .guard⟩ (by simp) rfl) ?_
              have e0 := slot_eq (hdep ⟨25, .data⟩ (by simp) rfl)
              obtain ⟨g, c, e1, hg, hrd⟩ := hdep ⟨28, .data⟩ (by simp) rfl
              have e1 := slot_eq e1
              refine rel_call (f := 29) (args := #[.agg #[.int .i64 fx, .int .i64 fy, .int .i64 (fw : Int), .int .i64 (fh : Int), .slice (some ⟨gp, 0, none⟩) (4 * M) (4 * M)], .agg #[.int .i64 fx, .int .i64 fy, .int .i64 (fw : Int), .int .i64 (fh : Int), .slice (some ⟨g, 0, none⟩) (4 * M) c]]) (run_go_call Try.func29 (by kernel_rfl) (by kernel_rfl) _ _ _ _ _ _ _ _ _ _ (by simp [Act.eval, e0, e1])) rfl ?_
              refine (ref_SameFrame _ _ _ _ _ _ _ _ _ _ _ _ wx (by omega) (madeL_len _ _) (by have h1 := rput.keep hE; have h2 := put_made zs fw fh i j F hij.1; rw [← hd.out.2.2.1] at h2; rw [h2] at h1; exact h1) hrd).mono ?_
              rintro e w' ⟨rfl, hb⟩
              exact ⟨_, rfl, rfl, hb⟩
            · refine grd_yes (j := 24) (b := false) rfl (hdep ⟨24, .guard⟩ (by simp) rfl) ?_
              have e0 := slot_eq (hdep ⟨29, .data⟩ (by simp) rfl)
              exact rel_pure _ rfl rfl (by simp [go_sem, e0])
          · intro t op ht hlt; cases hlt
          · intro vs wv2 hE hvs _
            have k24 : vs 24 = .bool false := hvs 24 (by omega)
            have k30 : vs 30 = .bool false := hvs 30 (by omega)
            simp only [List.drop_succ_cons, List.drop_zero, putAll, dstAt, List.getElem?_toArray, List.getElem?_cons_zero, List.getElem?_cons_succ, Option.bind_some, Act.put, List.setIfInBounds_toArray, List.set_cons_zero, List.set_cons_succ, k24, k30]
            clear hvs k24 k30
            replace fa := fa.keep hE
            replace fb := fb.keep hE
            replace xR := xR.keep hE
            replace xP := xP.keep hE
            replace B := B.trans (hE.mono B.size)
            clear hE x17 x18 x20 x21 rput rone hgp hgo hko
            obtain ⟨q0, f0, l0⟩ := fa.1.all
            obtain ⟨q1, f1, l1⟩ := fb.1.all
            obtain ⟨q2, f2, l2⟩ := xR.all
            obtain ⟨q3, f3, l3⟩ := xP.all
            go_wp2_with fail
            refine (frame_Cut_bad _ _ _ _ _ _ _ _ k _ _ _ _ (by unfold maxLen; omega) fa.chk hk.out hk0).mono ?_
            rintro e wv ⟨rfl, hb⟩
            clear q0 f0 l0 q1 f1 l1 q2 f2 l2 q3 f3 l3
            replace fa := fa.keep hb
            replace fb := fb.keep hb
            replace xR := xR.keep hb
            replace xP := xP.keep hb
            replace B := bcall B hb
            clear hb
            obtain ⟨q0, f0, l0⟩ := fa.1.all
            obtain ⟨q1, f1, l1⟩ := fb.1.all
            obtain ⟨q2, f2, l2⟩ := xR.all
            obtain ⟨q3, f3, l3⟩ := xP.all
            go_wp2_with fail
            refine nm_call ?_
            intro wn hwn
            have x22 : Bx wn wv.heap.size 26 #[.int .i64 0, .int .i64 0, .int .i64 0, .int .i64 0, .slice none 0 0] := by rw [hwn]; exact Bx.new _ _ _
            have hb : Below wv.heap.size wv wn := by rw [hwn]; exact bnew (Below.refl _ _)
            clear q0 f0 l0 q1 f1 l1 q2 f2 l2 q3 f3 l3
            replace fa := fa.keep hb
            replace fb := fb.keep hb
            replace xR := xR.keep hb
            replace xP := xP.keep hb
            replace B := bcall B hb
            clear hwn hb
            generalize wv.heap.size = p22 at *
            clear x22
            rcases common_meet fx fy fw fh gx gy gw gh (by omega) (by omega) (by omega) (by omega) with ⟨i0, j0, i1, j1, cw, ch, hm, hcm⟩ | ⟨hcm, _⟩
            · have Hm := Lib.hid (And.intro hm hcm)
              clear hm hcm
              refine (frame_Paste_ok fx fy gx gy fw fh gw gh g1 0 (4 * M) (4 * M) g2 0 (4 * M2) (4 * M2) zs zs2 _ fa.chk fa.reg fb.chk fb.reg (by rw [hd.out.2.2.1]) hd.out.1 fa.2.1 (by rw [hd.out.2.2.2.2.2]) hd.out.2.2.2.1 fb.2.1 i0 j0 i1 j1 cw ch Hm.out.1 Hm.out.2).mono ?_
              rintro e wv ⟨gq, rfl, hgq, rowq, hb⟩
              replace fa := fa.keep hb
              replace fb := fb.keep hb
              replace xR := xR.keep hb
              replace xP := xP.keep hb
              replace B := bcall B hb
              clear hb
              have rq := rowq.rd
              clear rowq
              have hx23 : W.heap.size + 1 + 1 + 1 < wv.heap.size := xP.lt
              obtain ⟨q0, f0, l0⟩ := fa.1.all
              obtain ⟨q1, f1, l1⟩ := fb.1.all
              obtain ⟨q2, f2, l2⟩ := xR.all
              obtain ⟨q3, f3, l3⟩ := xP.all
              go_wp2_with fail
              refine nm_call ?_
              intro wn hwn
              have x23 : Bx wn wv.heap.size 26 #[.int .i64 fx, .int .i64 fy, .int .i64 (fw : Int), .int .i64 (fh : Int), .slice (some ⟨gq, 0, none⟩) (4 * M) (4 * M)] := by rw [hwn]; exact Bx.new _ _ _
              have hb : Below wv.heap.size wv wn := by rw [hwn]; exact bnew (Below.refl _ _)
              clear q0 f0 l0 q1 f1 l1 q2 f2 l2 q3 f3 l3
              replace fa := fa.keep hb
              replace fb := fb.keep hb
              replace xR := xR.keep hb
              replace xP := xP.keep hb
              replace rq := rq.keep hb
              replace B := bcall B hb
              clear hwn hb
              generalize wv.heap.size = p23 at *
              refine (ref_Common_at _ _ _ _ _ _ _ _ _ _ _ _ _ Hm.out.2 _ (by omega) (by omega) (by omega) (by omega) (by omega) (by omega) (by omega) (by omega) (by omega) (by omega) (by omega) (by omega) (by omega) (by omega) (by omega) (by omega)).mono ?_
              rintro e wv ⟨rfl, hb⟩
              replace fa := fa.keep hb
              replace fb := fb.keep hb
              replace xR := xR.keep hb
              replace xP := xP.keep hb
              replace x23 := x23.keep hb
              replace rq := rq.keep hb
              replace B := bcall B hb
              clear hb
              have hx24 : p23 < wv.heap.size := x23.lt
              obtain ⟨q0, f0, l0⟩ := fa.1.all
              obtain ⟨q1, f1, l1⟩ := fb.1.all
              obtain ⟨q2, f2, l2⟩ := xR.all
              obtain ⟨q3, f3, l3⟩ := xP.all
              obtain ⟨q4, f4, l4⟩ := x23.all
              go_wp2_with fail
              refine name_world ?_
              intro wn hwn
              have x24 : Bx wn wv.heap.size 23 #[.int .i64 (fx + i0), .int .i64 (fy + j0), .int .i64 (cw : Int), .int .i64 (ch : Int)] := by rw [hwn]; exact Bx.new _ _ _
              have hb : Below wv.heap.size wv wn := by rw [hwn]; exact bnew (Below.refl _ _)
              clear q0 f0 l0 q1 f1 l1 q2 f2 l2 q3 f3 l3 q4 f4 l4
              replace fa := fa.keep hb
              replace fb := fb.keep hb
              replace xR := xR.keep hb
              replace xP := xP.keep hb
              replace x23 := x23.keep hb
              replace rq := rq.keep hb
              replace B := bcall B hb
              clear hwn hb
              generalize wv.heap.size = p24 at *
              by_cases heq : fx = gx ∧ fy = gy ∧ fw = gw ∧ fh = gh
              · obtain ⟨rfl, rfl, rfl, rfl⟩ := heq
                obtain rfl : M = M2 := by rw [hd.out.2.2.1, hd.out.2.2.2.2.2]
                refine wp_region_grd 18 (fun _ => false) (fun q u w' => if q = 6 then ∃ g c, u = .agg #[.int .i64 fx, .int .i64 fy, .int .i64 (fw : Int), .int .i64 (fh : Int), .slice (some ⟨g, 0, none⟩) (4 * M) c] ∧ wn.heap.size ≤ g ∧ Rd w' g 0 (madeL (pasteP zs zs2 fw fw i0 j0 i1 j1 cw ch) (4 * M)) else u = [.int .i64 0, .bool true, .bool true, .agg #[.int .i64 fx, .int .i64 fy, .int .i64 (fw : Int), .int .i64 (fh : Int), .slice (some ⟨gq, 0, none⟩) (4 * M) (4 * M)], .agg #[.int .i64 fx, .int .i64 fy, .int .i64 (fw : Int), .int .i64 (fh : Int), .slice (some ⟨g1, 0, none⟩) (4 * M) (4 * M)], .agg #[.int .i64 fx, .int .i64 fy, .int .i64 (fw : Int), .int .i64 (fh : Int), .slice (some ⟨g2, 0, none⟩) (4 * M) (4 * M)], undef, .bool true, .bool true, .bool true, .agg #[.int .i64 fx, .int .i64 fy, .int .i64 (fw : Int), .int .i64 (fh : Int), .slice (some ⟨g1, 0, none⟩) (4 * M) (4 * M)], .agg #[.int .i64 fx, .int .i64 fy, .int .i64 (fw : Int), .int .i64 (fh : Int), .slice (some ⟨g2, 0, none⟩) (4 * M) (4 * M)], .bool (allSame (4 * M) zs zs2), .agg #[.int .i64 fx, .int .i64 fy, .int .i64 (fw : Int), .int .i64 (fh : Int), .slice (some ⟨g1, 0, none⟩) (4 * M) (4 * M)], .agg #[.int .i64 fx, .int .i64 fy, .int .i64 (fw : Int), .int .i64 (fh : Int), .slice (some ⟨g2, 0, none⟩) (4 * M) (4 * M)], .bool (allSame (4 * M) zs zs2), .bool true, .bool true].getD q undef) (fun _ => false) (fun w' => Below wn.heap.size wn w') (by kernel_rfl) (by kernel_rfl) (fun _ _ _ _ _ h => h)
                  (fun _ _ h e => e.trans (h.mono e.size)) (fun t u a' b' hb h => ?_) (Below.refl _ _).drew ?_ ?_ ?_
                · split
                  · rename_i h4
                    rw [if_pos h4] at h
                    obtain ⟨g, c, e1, e2, e3⟩ := h
                    exact ⟨g, c, e1, e2, e3.keep hb⟩
                  · rename_i h4
                    rw [if_neg h4] at h
                    exact h
                · intro t op ht hlt hop
                  clear hlt
                  rcases (by omega : t = 0 ∨ t = 1 ∨ t = 2 ∨ t = 3 ∨ t = 4 ∨ t = 5 ∨ t = 6 ∨ t = 7 ∨ t = 8 ∨ t = 9 ∨ t = 10 ∨ t = 11 ∨ t = 12 ∨ t = 13 ∨ t = 14 ∨ t = 15 ∨ t = 16 ∨ t = 17) with rfl | rfl | rfl | rfl | rfl | rfl | rfl | rfl | rfl | rfl | rfl | rfl | rfl | rfl | rfl | rfl | rfl | rfl
                  all_goals simp only [List.getElem?_cons_zero, List.getElem?_cons_succ, Option.some.injEq] at hop
                  all_goals subst hop
                  all_goals intro a wx hE hag hdep
                  · refine grd_none rfl ?_
                    have e0 := slot_eq (hag 14 rfl)
                    exact rel_pure _ rfl rfl (by simp [go_sem, e0])
                  · refine grd_none rfl ?_
                    have e0 := slot_eq (hdep ⟨0, .data⟩ (by simp) rfl)
                    exact rel_pure _ rfl rfl (by simp [go_sem, e0])
                  · refine grd_none rfl ?_
                    have e0 := slot_eq (hdep ⟨1, .data⟩ (by simp) rfl)
                    exact rel_pure _ rfl rfl (by simp [go_sem, e0])
                  · refine grd_yes (j := 2) (b := true) rfl (hdep ⟨2, .guard⟩ (by simp) rfl) ?_
                    have e0 := slot_eq (hag 23 rfl)
                    have hq := (x23.keep hE).all.1
                    exact rel_pure _ rfl rfl (by simp [go_sem, e0, hq])
                  · refine grd_yes (j := 2) (b := true) rfl (hdep ⟨2, .guard⟩ (by simp) rfl) ?_
                    have e0 := slot_eq (hag 6 rfl)
                    have hq := (fa.1.keep hE).all.1
                    exact rel_pure _ rfl rfl (by simp [go_sem, e0, hq])
                  · refine grd_yes (j := 2) (b := true) rfl (hdep ⟨2, .guard⟩ (by simp) rfl) ?_
                    have e0 := slot_eq (hag 7 rfl)
                    have hq := (fb.1.keep hE).all.1
                    exact rel_pure _ rfl rfl (by simp [go_sem, e0, hq])
                  · refine grd_yes (j := 2) (b := true) rfl (hdep ⟨2, .guard⟩ (by simp) rfl) ?_
                    have e0 := slot_eq (hdep ⟨4, .data⟩ (by simp) rfl)
                    have e1 := slot_eq (hdep ⟨5, .data⟩ (by simp) rfl)
                    refine rel_call (f := 66) (args := #[.agg #[.int .i64 fx, .int .i64 fy, .int .i64 (fw : Int), .int .i64 (fh : Int), .slice (some ⟨g1, 0, none⟩) (4 * M) (4 * M)], .agg #[.int .i64 fx, .int .i64 fy, .int .i64 (fw : Int), .int .i64 (fh : Int), .slice (some ⟨g2, 0, none⟩) (4 * M) (4 * M)]]) (run_go_call Try.func66 (by kernel_rfl) (by kernel_rfl) _ _ _ _ _ _ _ _ _ _ (by simp [Act.eval, e0, e1])) rfl ?_
                    refine (ref_Paste fx fy fx fy fw fh fw fh i0 j0 i1 j1 cw ch g1 0 (4 * M) (4 * M) g2 0 (4 * M) (4 * M) zs zs2 wx (by omega) (by omega) (by omega) (by omega) (by omega) (by omega) (by omega) (by omega) (by omega) (by omega) (by omega) (by omega) (by omega) (by omega) (by omega) (by omega) Hm.out.1 (by rw [hd.out.2.2.1]) (Nat.le_refl _) hd.out.1 (fa.2.1.keep hE) (by rw [hd.out.2.2.2.2.2]) (Nat.le_refl _) hd.out.2.2.2.1 (fb.2.1.keep hE)).mono ?_
                    rintro e w' ⟨g, c, rfl, hcc, hg, hrd, hb⟩
                    rw [← hd.out.2.2.1] at hrd
                    exact ⟨_, rfl, ⟨g, c, by rw [hd.out.2.2.1], Nat.le_trans hE.size hg, hrd⟩, hb⟩
                  · refine grd_yes (j := 2) (b := true) rfl (hdep ⟨2, .guard⟩ (by simp) rfl) ?_
                    have e0 := slot_eq (hdep ⟨3, .data⟩ (by simp) rfl)
                    obtain ⟨g, c, e1, hg, hrd⟩ := hdep ⟨6, .data⟩ (by simp) rfl
                    have e1 := slot_eq e1
                    refine rel_call (f := 29) (args := #[.agg #[.int .i64 fx, .int .i64 fy, .int .i64 (fw : Int), .int .i64 (fh : Int), .slice (some ⟨gq, 0, none⟩) (4 * M) (4 * M)], .agg #[.int .i64 fx, .int .i64 fy, .int .i64 (fw : Int), .int .i64 (fh : Int), .slice (some ⟨g, 0, none⟩) (4 * M) c]]) (run_go_call Try.func29 (by kernel_rfl) (by kernel_rfl) _ _ _ _ _ _ _ _ _ _ (by simp [Act.eval, e0, e1])) rfl ?_
                    refine (ref_SameFrame _ _ _ _ _ _ _ _ _ _ _ _ wx (by omega) (madeL_len _ _) (rq.keep hE) hrd).mono ?_
                    rintro e w' ⟨rfl, hb⟩
                    exact ⟨_, rfl, rfl, hb⟩
                  · refine grd_none rfl ?_
                    have e0 := slot_eq (hdep ⟨2, .data⟩ (by simp) rfl)
                    have e1 := slot_eq (hdep ⟨7, .data⟩ (by simp) rfl)
                    exact rel_pure _ rfl rfl (by simp [go_sem, e0, e1])
                  · refine grd_none rfl ?_
                    have e0 := slot_eq (hdep ⟨8, .data⟩ (by simp) rfl)
                    exact rel_pure _ rfl rfl (by simp [go_sem, e0])
                  · refine grd_yes (j := 9) (b := true) rfl (hdep ⟨9, .guard⟩ (by simp) rfl) ?_
                    have e0 := slot_eq (hag 6 rfl)
                    have hq := (fa.1.keep hE).all.1
                    exact rel_pure _ rfl rfl (by simp [go_sem, e0, hq])
                  · refine grd_yes (j := 9) (b := true) rfl (hdep ⟨9, .guard⟩ (by simp) rfl) ?_
                    have e0 := slot_eq (hag 7 rfl)
                    have hq := (fb.1.keep hE).all.1
                    exact rel_pure _ rfl rfl (by simp [go_sem, e0, hq])
                  · refine grd_yes (j := 9) (b := true) rfl (hdep ⟨9, .guard⟩ (by simp) rfl) ?_
                    have e0 := slot_eq (hdep ⟨10, .data⟩ (by simp) rfl)
                    have e1 := slot_eq (hdep ⟨11, .data⟩ (by simp) rfl)
                    refine rel_call (f := 70) (args := #[.agg #[.int .i64 fx, .int .i64 fy, .int .i64 (fw : Int), .int .i64 (fh : Int), .slice (some ⟨g1, 0, none⟩) (4 * M) (4 * M)], .agg #[.int .i64 fx, .int .i64 fy, .int .i64 (fw : Int), .int .i64 (fh : Int), .slice (some ⟨g2, 0, none⟩) (4 * M) (4 * M)]]) (run_go_call Try.func70 (by kernel_rfl) (by kernel_rfl) _ _ _ _ _ _ _ _ _ _ (by simp [Act.eval, e0, e1])) rfl ?_
                    refine (frame_Same_in _ _ _ _ _ _ _ _ _ _ _ zs zs2 wx (by omega) hd.out.1 hd.out.2.2.2.1 (fa.2.1.keep hE) (fb.2.1.keep hE)).mono ?_
                    rintro e w' ⟨rfl, hb⟩
                    exact ⟨_, rfl, rfl, hb⟩
                  · refine grd_yes (j := 9) (b := true) rfl (hdep ⟨9, .guard⟩ (by simp) rfl) ?_
                    have e0 := slot_eq (hag 6 rfl)
                    have hq := (fa.1.keep hE).all.1
                    exact rel_pure _ rfl rfl (by simp [go_sem, e0, hq])
                  · refine grd_yes (j := 9) (b := true) rfl (hdep ⟨9, .guard⟩ (by simp) rfl) ?_
                    have e0 := slot_eq (hag 7 rfl)
                    have hq := (fb.1.keep hE).all.1
                    exact rel_pure _ rfl rfl (by simp [go_sem, e0, hq])
                  · refine grd_yes (j := 9) (b := true) rfl (hdep ⟨9, .guard⟩ (by simp) rfl) ?_
                    have e0 := slot_eq (hdep ⟨13, .data⟩ (by simp) rfl)
                    have e1 := slot_eq (hdep ⟨14, .data⟩ (by simp) rfl)
                    refine rel_call (f := 71) (args := #[.agg #[.int .i64 fx, .int .i64 fy, .int .i64 (fw : Int), .int .i64 (fh : Int), .slice (some ⟨g1, 0, none⟩) (4 * M) (4 * M)], .agg #[.int .i64 fx, .int .i64 fy, .int .i64 (fw : Int), .int .i64 (fh : Int), .slice (some ⟨g2, 0, none⟩) (4 * M) (4 * M)]]) (run_go_call Try.func71 (by kernel_rfl) (by kernel_rfl) _ _ _ _ _ _ _ _ _ _ (by simp [Act.eval, e0, e1])) rfl ?_
                    refine (ref_Same_in _ _ _ _ _ _ _ _ _ _ _ zs zs2 wx (by omega) hd.out.1 hd.out.2.2.2.1 (fa.2.1.keep hE) (fb.2.1.keep hE)).mono ?_
                    rintro e w' ⟨rfl, hb⟩
                    exact ⟨_, rfl, rfl, hb⟩
                  · refine grd_yes (j := 9) (b := true) rfl (hdep ⟨9, .guard⟩ (by simp) rfl) ?_
                    have e0 := slot_eq (hdep ⟨12, .data⟩ (by simp) rfl)
                    have e1 := slot_eq (hdep ⟨15, .data⟩ (by simp) rfl)
                    exact rel_pure _ rfl rfl (by simp [go_sem, e0, e1])
                  · refine grd_none rfl ?_
                    have e0 := slot_eq (hdep ⟨9, .data⟩ (by simp) rfl)
                    have e1 := slot_eq (hdep ⟨16, .data⟩ (by simp) rfl)
                    exact rel_pure _ rfl rfl (by simp [go_sem, e0, e1])
                · intro t op ht hlt; cases hlt
                · intro vs wv2 hE hvs _
                  have k17 : vs 17 = .bool true := hvs 17 (by omega)
                  simp only [List.drop_succ_cons, List.drop_zero, putAll, dstAt, List.getElem?_toArray, List.getElem?_cons_zero, List.getElem?_cons_succ, Option.bind_some, Act.put, List.setIfInBounds_toArray, List.set_cons_zero, List.set_cons_succ, k17]
                  clear hvs k17
                  replace fa := fa.keep hE
                  replace fb := fb.keep hE
                  replace xR := xR.keep hE
                  replace xP := xP.keep hE
                  replace B := B.trans (hE.mono B.size)
                  clear hE x23 x24 rq hgq
                  go_wp2_with fail
                  go_ret
                  exact ⟨rfl, B⟩
              · have hne : Hid (¬ (fx = gx ∧ fy = gy ∧ (fw : Int) = gw ∧ (fh : Int) = gh)) := Lib.hid (fun hh => heq ⟨hh.1, hh.2.1, by omega, by omega⟩)
                clear heq
                refine wp_region_grd 18 (fun _ => false) (fun q u w' => if q = 6 then ∃ g c, u = .agg #[.int .i64 fx, .int .i64 fy, .int .i64 (fw : Int), .int .i64 (fh : Int), .slice (some ⟨g, 0, none⟩) (4 * M) c] ∧ wn.heap.size ≤ g ∧ Rd w' g 0 (madeL (pasteP zs zs2 fw gw i0 j0 i1 j1 cw ch) (4 * M)) else u = [.int .i64 0, .bool true, .bool true, .agg #[.int .i64 fx, .int .i64 fy, .int .i64 (fw : Int), .int .i64 (fh : Int), .slice (some ⟨gq, 0, none⟩) (4 * M) (4 * M)], .agg #[.int .i64 fx, .int .i64 fy, .int .i64 (fw : Int), .int .i64 (fh : Int), .slice (some ⟨g1, 0, none⟩) (4 * M) (4 * M)], .agg #[.int .i64 gx, .int .i64 gy, .int .i64 (gw : Int), .int .i64 (gh : Int), .slice (some ⟨g2, 0, none⟩) (4 * M2) (4 * M2)], undef, .bool true, .bool true, .bool true, .agg #[.int .i64 fx, .int .i64 fy, .int .i64 (fw : Int), .int .i64 (fh : Int), .slice (some ⟨g1, 0, none⟩) (4 * M) (4 * M)], .agg #[.int .i64 gx, .int .i64 gy, .int .i64 (gw : Int), .int .i64 (gh : Int), .slice (some ⟨g2, 0, none⟩) (4 * M2) (4 * M2)], .bool (false), .agg #[.int .i64 fx, .int .i64 fy, .int .i64 (fw : Int), .int .i64 (fh : Int), .slice (some ⟨g1, 0, none⟩) (4 * M) (4 * M)], .agg #[.int .i64 gx, .int .i64 gy, .int .i64 (gw : Int), .int .i64 (gh : Int), .slice (some ⟨g2, 0, none⟩) (4 * M2) (4 * M2)], .bool (false), .bool true, .bool true].getD q undef) (fun _ => false) (fun w' => Below wn.heap.size wn w') (by kernel_rfl) (by kernel_rfl) (fun _ _ _ _ _ h => h)
                  (fun _ _ h e => e.trans (h.mono e.size)) (fun t u a' b' hb h => ?_) (Below.refl _ _).drew ?_ ?_ ?_
                · split
                  · rename_i h4
                    rw [if_pos h4] at h
                    obtain ⟨g, c, e1, e2, e3⟩ := h
                    exact ⟨g, c, e1, e2, e3.keep hb⟩
                  · rename_i h4
                    rw [if_neg h4] at h
                    exact h
                · intro t op ht hlt hop
                  clear hlt
                  rcases (by omega : t = 0 ∨ t = 1 ∨ t = 2 ∨ t = 3 ∨ t = 4 ∨ t = 5 ∨ t = 6 ∨ t = 7 ∨ t = 8 ∨ t = 9 ∨ t = 10 ∨ t = 11 ∨ t = 12 ∨ t = 13 ∨ t = 14 ∨ t = 15 ∨ t = 16 ∨ t = 17) with rfl | rfl | rfl | rfl | rfl | rfl | rfl | rfl | rfl | rfl | rfl | rfl | rfl | rfl | rfl | rfl | rfl | rfl
                  all_goals simp only [List.getElem?_cons_zero, List.getElem?_cons_succ, Option.some.injEq] at hop
                  all_goals subst hop
                  all_goals intro a wx hE hag hdep
                  · refine grd_none rfl ?_
                    have e0 := slot_eq (hag 14 rfl)
                    exact rel_pure _ rfl rfl (by simp [go_sem, e0])
                  · refine grd_none rfl ?_
                    have e0 := slot_eq (hdep ⟨0, .data⟩ (by simp) rfl)
                    exact rel_pure _ rfl rfl (by simp [go_sem, e0])
                  · refine grd_none rfl ?_
                    have e0 := slot_eq (hdep ⟨1, .data⟩ (by simp) rfl)
                    exact rel_pure _ rfl rfl (by simp [go_sem, e0])
                  · refine grd_yes (j := 2) (b := true) rfl (hdep ⟨2, .guard⟩ (by simp) rfl) ?_
                    have e0 := slot_eq (hag 23 rfl)
                    have hq := (x23.keep hE).all.1
                    exact rel_pure _ rfl rfl (by simp [go_sem, e0, hq])
                  · refine grd_yes (j := 2) (b := true) rfl (hdep ⟨2, .guard⟩ (by simp) rfl) ?_
                    have e0 := slot_eq (hag 6 rfl)
                    have hq := (fa.1.keep hE).all.1
                    exact rel_pure _ rfl rfl (by simp [go_sem, e0, hq])
                  · refine grd_yes (j := 2) (b := true) rfl (hdep ⟨2, .guard⟩ (by simp) rfl) ?_
                    have e0 := slot_eq (hag 7 rfl)
                    have hq := (fb.1.keep hE).all.1
                    exact rel_pure _ rfl rfl (by simp [go_sem, e0, hq])
                  · refine grd_yes (j := 2) (b := true) rfl (hdep ⟨2, .guard⟩ (by simp) rfl) ?_
                    have e0 := slot_eq (hdep ⟨4, .data⟩ (by simp) rfl)
                    have e1 := slot_eq (hdep ⟨5, .data⟩ (by simp) rfl)
                    refine rel_call (f := 66) (args := #[.agg #[.int .i64 fx, .int .i64 fy, .int .i64 (fw : Int), .int .i64 (fh : Int), .slice (some ⟨g1, 0, none⟩) (4 * M) (4 * M)], .agg #[.int .i64 gx, .int .i64 gy, .int .i64 (gw : Int), .int .i64 (gh : Int), .slice (some ⟨g2, 0, none⟩) (4 * M2) (4 * M2)]]) (run_go_call Try.func66 (by kernel_rfl) (by kernel_rfl) _ _ _ _ _ _ _ _ _ _ (by simp [Act.eval, e0, e1])) rfl ?_
                    refine (ref_Paste fx fy gx gy fw fh gw gh i0 j0 i1 j1 cw ch g1 0 (4 * M) (4 * M) g2 0 (4 * M2) (4 * M2) zs zs2 wx (by omega) (by omega) (by omega) (by omega) (by omega) (by omega) (by omega) (by omega) (by omega) (by omega) (by omega) (by omega) (by omega) (by omega) (by omega) (by omega) Hm.out.1 (by rw [hd.out.2.2.1]) (Nat.le_refl _) hd.out.1 (fa.2.1.keep hE) (by rw [hd.out.2.2.2.2.2]) (Nat.le_refl _) hd.out.2.2.2.1 (fb.2.1.keep hE)).mono ?_
                    rintro e w' ⟨g, c, rfl, hcc, hg, hrd, hb⟩
                    rw [← hd.out.2.2.1] at hrd
                    exact ⟨_, rfl, ⟨g, c, by rw [hd.out.2.2.1], Nat.le_trans hE.size hg, hrd⟩, hb⟩
                  · refine grd_yes (j := 2) (b := true) rfl (hdep ⟨2, .guard⟩ (by simp) rfl) ?_
                    have e0 := slot_eq (hdep ⟨3, .data⟩ (by simp) rfl)
                    obtain ⟨g, c, e1, hg, hrd⟩ := hdep ⟨6, .data⟩ (by simp) rfl
                    have e1 := slot_eq e1
                    refine rel_call (f := 29) (args := #[.agg #[.int .i64 fx, .int .i64 fy, .int .i64 (fw : Int), .int .i64 (fh : Int), .slice (some ⟨gq, 0, none⟩) (4 * M) (4 * M)], .agg #[.int .i64 fx, .int .i64 fy, .int .i64 (fw : Int), .int .i64 (fh : Int), .slice (some ⟨g, 0, none⟩) (4 * M) c]]) (run_go_call Try.func29 (by kernel_rfl) (by kernel_rfl) _ _ _ _ _ _ _ _ _ _ (by simp [Act.eval, e0, e1])) rfl ?_
                    refine (ref_SameFrame _ _ _ _ _ _ _ _ _ _ _ _ wx (by omega) (madeL_len _ _) (rq.keep hE) hrd).mono ?_
                    rintro e w' ⟨rfl, hb⟩
                    exact ⟨_, rfl, rfl, hb⟩
                  · refine grd_none rfl ?_
                    have e0 := slot_eq (hdep ⟨2, .data⟩ (by simp) rfl)
                    have e1 := slot_eq (hdep ⟨7, .data⟩ (by simp) rfl)
                    exact rel_pure _ rfl rfl (by simp [go_sem, e0, e1])
                  · refine grd_none rfl ?_
                    have e0 := slot_eq (hdep ⟨8, .data⟩ (by simp) rfl)
                    exact rel_pure _ rfl rfl (by simp [go_sem, e0])
                  · refine grd_yes (j := 9) (b := true) rfl (hdep ⟨9, .guard⟩ (by simp) rfl) ?_
                    have e0 := slot_eq (hag 6 rfl)
                    have hq := (fa.1.keep hE).all.1
                    exact rel_pure _ rfl rfl (by simp [go_sem, e0, hq])
                  · refine grd_yes (j := 9) (b := true) rfl (hdep ⟨9, .guard⟩ (by simp) rfl) ?_
                    have e0 := slot_eq (hag 7 rfl)
                    have hq := (fb.1.keep hE).all.1
                    exact rel_pure _ rfl rfl (by simp [go_sem, e0, hq])
                  · refine grd_yes (j := 9) (b := true) rfl (hdep ⟨9, .guard⟩ (by simp) rfl) ?_
                    have e0 := slot_eq (hdep ⟨10, .data⟩ (by simp) rfl)
                    have e1 := slot_eq (hdep ⟨11, .data⟩ (by simp) rfl)
                    refine rel_call (f := 70) (args := #[.agg #[.int .i64 fx, .int .i64 fy, .int .i64 (fw : Int), .int .i64 (fh : Int), .slice (some ⟨g1, 0, none⟩) (4 * M) (4 * M)], .agg #[.int .i64 gx, .int .i64 gy, .int .i64 (gw : Int), .int .i64 (gh : Int), .slice (some ⟨g2, 0, none⟩) (4 * M2) (4 * M2)]]) (run_go_call Try.func70 (by kernel_rfl) (by kernel_rfl) _ _ _ _ _ _ _ _ _ _ (by simp [Act.eval, e0, e1])) rfl ?_
                    refine (frame_Same_off _ _ _ _ _ _ _ _ _ _ _ _ _ _ wx (fun hh => hne.out hh.1)).mono ?_
                    rintro e w' ⟨rfl, hb⟩
                    exact ⟨_, rfl, rfl, hb⟩
                  · refine grd_yes (j := 9) (b := true) rfl (hdep ⟨9, .guard⟩ (by simp) rfl) ?_
                    have e0 := slot_eq (hag 6 rfl)
                    have hq := (fa.1.keep hE).all.1
                    exact rel_pure _ rfl rfl (by simp [go_sem, e0, hq])
                  · refine grd_yes (j := 9) (b := true) rfl (hdep ⟨9, .guard⟩ (by simp) rfl) ?_
                    have e0 := slot_eq (hag 7 rfl)
                    have hq := (fb.1.keep hE).all.1
                    exact rel_pure _ rfl rfl (by simp [go_sem, e0, hq])
                  · refine grd_yes (j := 9) (b := true) rfl (hdep ⟨9, .guard⟩ (by simp) rfl) ?_
                    have e0 := slot_eq (hdep ⟨13, .data⟩ (by simp) rfl)
                    have e1 := slot_eq (hdep ⟨14, .data⟩ (by simp) rfl)
                    refine rel_call (f := 71) (args := #[.agg #[.int .i64 fx, .int .i64 fy, .int .i64 (fw : Int), .int .i64 (fh : Int), .slice (some ⟨g1, 0, none⟩) (4 * M) (4 * M)], .agg #[.int .i64 gx, .int .i64 gy, .int .i64 (gw : Int), .int .i64 (gh : Int), .slice (some ⟨g2, 0, none⟩) (4 * M2) (4 * M2)]]) (run_go_call Try.func71 (by kernel_rfl) (by kernel_rfl) _ _ _ _ _ _ _ _ _ _ (by simp [Act.eval, e0, e1])) rfl ?_
                    refine (ref_Same_off _ _ _ _ _ _ _ _ _ _ _ _ _ _ wx (fun hh => hne.out hh.1)).mono ?_
                    rintro e w' ⟨rfl, hb⟩
                    exact ⟨_, rfl, rfl, hb⟩
                  · refine grd_yes (j := 9) (b := true) rfl (hdep ⟨9, .guard⟩ (by simp) rfl) ?_
                    have e0 := slot_eq (hdep ⟨12, .data⟩ (by simp) rfl)
                    have e1 := slot_eq (hdep ⟨15, .data⟩ (by simp) rfl)
                    exact rel_pure _ rfl rfl (by simp [go_sem, e0, e1])
                  · refine grd_none rfl ?_
                    have e0 := slot_eq (hdep ⟨9, .data⟩ (by simp) rfl)
                    have e1 := slot_eq (hdep ⟨16, .data⟩ (by simp) rfl)
                    exact rel_pure _ rfl rfl (by simp [go_sem, e0, e1])
                · intro t op ht hlt; cases hlt
                · intro vs wv2 hE hvs _
                  have k17 : vs 17 = .bool true := hvs 17 (by omega)
                  simp only [List.drop_succ_cons, List.drop_zero, putAll, dstAt, List.getElem?_toArray, List.getElem?_cons_zero, List.getElem?_cons_succ, Option.bind_some, Act.put, List.setIfInBounds_toArray, List.set_cons_zero, List.set_cons_succ, k17]
                  clear hvs k17
                  replace fa := fa.keep hE
                  replace fb := fb.keep hE
                  replace xR := xR.keep hE
                  replace xP := xP.keep hE
                  replace B := B.trans (hE.mono B.size)
                  clear hE x23 x24 rq hgq
                  go_wp2_with fail
                  go_ret
                  exact ⟨rfl, B⟩
            · have Hm := Lib.hid hcm
              clear hcm
              refine (frame_Paste_place fx fy gx gy fw fh gw gh g1 0 (4 * M) (4 * M) g2 0 (4 * M2) (4 * M2) zs zs2 _ fa.chk fa.reg fb.chk fb.reg (by rw [hd.out.2.2.1]) hd.out.1 fa.2.1 (by rw [hd.out.2.2.2.2.2]) hd.out.2.2.2.1 fb.2.1 Hm.out).mono ?_
              rintro e wv ⟨rfl, hb⟩
              replace fa := fa.keep hb
              replace fb := fb.keep hb
              replace xR := xR.keep hb
              replace xP := xP.keep hb
              replace B := bcall B hb
              clear hb
              obtain ⟨q0, f0, l0⟩ := fa.1.all
              obtain ⟨q1, f1, l1⟩ := fb.1.all
              obtain ⟨q2, f2, l2⟩ := xR.all
              obtain ⟨q3, f3, l3⟩ := xP.all
              go_wp2_with fail
              refine nm_call ?_
              intro wn hwn
              have x23 : Bx wn wv.heap.size 26 #[.int .i64 0, .int .i64 0, .int .i64 0, .int .i64 0, .slice none 0 0] := by rw [hwn]; exact Bx.new _ _ _
              have hb : Below wv.heap.size wv wn := by rw [hwn]; exact bnew (Below.refl _ _)
              clear q0 f0 l0 q1 f1 l1 q2 f2 l2 q3 f3 l3
              replace fa := fa.keep hb
              replace fb := fb.keep hb
              replace xR := xR.keep hb
              replace xP := xP.keep hb
              replace B := bcall B hb
              clear hwn hb
              generalize wv.heap.size = p23 at *
              refine (ref_Common_at _ _ _ _ _ _ _ _ _ _ _ _ _ Hm.out _ (by omega) (by omega) (by omega) (by omega) (by omega) (by omega) (by omega) (by omega) (by omega) (by omega) (by omega) (by omega) (by omega) (by omega) (by omega) (by omega)).mono ?_
              rintro e wv ⟨rfl, hb⟩
              replace fa := fa.keep hb
              replace fb := fb.keep hb
              replace xR := xR.keep hb
              replace xP := xP.keep hb
              replace x23 := x23.keep hb
              replace B := bcall B hb
              clear hb
              obtain ⟨q0, f0, l0⟩ := fa.1.all
              obtain ⟨q1, f1, l1⟩ := fb.1.all
              obtain ⟨q2, f2, l2⟩ := xR.all
              obtain ⟨q3, f3, l3⟩ := xP.all
              obtain ⟨q4, f4, l4⟩ := x23.all
              go_wp2_with fail
              go_ret
              exact ⟨rfl, bnew B⟩
end Go.Proofs.Ytoffnmpnhddaiaa
