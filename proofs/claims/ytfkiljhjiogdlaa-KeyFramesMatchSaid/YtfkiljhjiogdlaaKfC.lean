/- dyeref1.FramesError. (printed by gen_kfb.py) -/
import Derived.Test.YtfkiljhjiogdlaaKfB
import Derived.Test.YtfkiljhjiogdlaaKfA
import Derived.Test.YtfkiljhjiogdlaaFst
import Derived.Test.YtfkiljhjiogdlaaWhn
import Derived.Test.YtfkiljhjiogdlaaGrd
namespace Go.Proofs.Ytfkiljhjiogdlaa
open Go.RowKit

def kf3 (fr ease we : Int) : Int := if fr < 0 ∨ 16777216 < fr then 3 else if ease < 1 ∨ 3 < ease then 1 else we
theorem kf3_first {fr ease we : Int} {A B C D RA RB : Bool} (hA : decide (fr < 0) = A) (hB : decide (ease < 1) = B) (hC : C = decide (16777216 < fr)) (hD : D = decide (3 < ease)) (h1 : RA = (A || C)) (h2 : RB = (B || D)) : firstL [whenV RA 3, whenV RB 1, we] = kf3 fr ease we := by
  have k1 : RA = decide (fr < 0 ∨ 16777216 < fr) := by rw [h1, ← hA, hC, Bool.decide_or]
  have k2 : RB = decide (ease < 1 ∨ 3 < ease) := by rw [h2, ← hB, hD, Bool.decide_or]
  unfold kf3
  by_cases c1 : fr < 0 ∨ 16777216 < fr
  · rw [if_pos c1, k1, decide_eq_true c1]; rfl
  · rw [if_neg c1, k1, decide_eq_false c1]
    by_cases c2 : ease < 1 ∨ 3 < ease
    · rw [if_pos c2, k2, decide_eq_true c2]; rfl
    · rw [if_neg c2, k2, decide_eq_false c2]
      show (if we = 0 then 0 else we) = we
      split
      · rename_i h; exact h.symm
      · rfl
theorem kf3_err {fr ease we pf : Int} {k : Nat} {cf : Bool} (h : kf3 fr ease we ≠ 0) : kfErr fr ease we k pf cf = kf3 fr ease we := by
  unfold kf3 at h ⊢
  unfold kfErr
  split
  · rfl
  · rename_i c1
    rw [if_neg c1] at h
    split
    · rfl
    · rename_i c2
      rw [if_neg c2] at h
      rw [if_pos h]
theorem kf3_nea {fr ease we : Int} (h : fr < 0) : kf3 fr ease we ≠ 0 := by
  unfold kf3
  rw [if_pos (.inl h)]
  decide
theorem kf3_neb {fr ease we : Int} (h : ease < 1) : kf3 fr ease we ≠ 0 := by
  unfold kf3
  split
  · decide
  · rw [if_pos (.inl h)]
    decide
theorem kf3_zero {fr ease we : Int} (h : kf3 fr ease we = 0) : 0 ≤ fr ∧ fr ≤ 16777216 ∧ 1 ≤ ease ∧ ease ≤ 3 ∧ we = 0 := by
  unfold kf3 at h
  split at h
  · cases h
  · split at h
    · cases h
    · exact ⟨by omega, by omega, by omega, by omega, h⟩

set_option maxRecDepth 100000 in
set_option maxHeartbeats 8000000 in
theorem ref_FramesError (v : Value) (ks : List Kf) (W : World) (hs : SlK W v ks) :
    Calls Try.prog 10 #[v] W fun e w' => e = .returned (.int .i64 (kfsErr ks)) ∧ Below W.heap.size W w' := by
  obtain ⟨a, c, rfl, hmax, hform, hpts⟩ := hs
  unfold maxLen at hmax
  obtain ⟨n, hn⟩ : ∃ n, n = ks.length := ⟨_, rfl⟩
  rw [← hn] at hmax hpts ⊢
  have Hn := Lib.hid hn
  have Hpts := Lib.hid hpts
  clear hpts
  generalize hres : kfsErr ks = res
  have Hres := Lib.hid hres
  clear hres hn
  by_cases hn0 : n = 0
  · obtain rfl : res = 10 := by rw [← Hres.out]; unfold kfsErr; rw [if_pos (by rw [← Hn.out]; exact hn0)]
    subst hn0
    clear hmax hform Hpts Hres Hn
    go_enter Try.func10, Try.ntmps10
    go_wp2_with fail
    go_ret
    exact ⟨rfl, Below.refl _ _⟩
  have d0 : ((n : Int) == 0) = false := beq_eq_false_iff_ne.2 (by omega)
  by_cases hn1 : 100 < n
  · obtain rfl : res = 4 := by rw [← Hres.out]; unfold kfsErr; rw [if_neg (by rw [← Hn.out]; exact hn0), if_pos (by rw [← Hn.out]; exact hn1)]
    clear hform Hpts Hres Hn
    have d1 : decide (100 < (n : Int)) = true := decide_eq_true (by omega)
    go_enter Try.func10, Try.ntmps10
    go_wp2_with fail
    go_ret
    exact ⟨rfl, Below.refl _ _⟩
  have d1 : decide (100 < (n : Int)) = false := decide_eq_false (by omega)
  have hend : kfsTo ks n = res := by rw [← Hres.out]; unfold kfsErr; rw [if_neg (by rw [← Hn.out]; exact hn0), if_neg (by rw [← Hn.out]; exact hn1), ← Hn.out]
  have Hend := Lib.hid hend
  clear hend Hres
  rcases hform with h0 | ⟨b, o, rfl, hbl, hat⟩
  · exfalso
    have := Hn.out
    rw [h0] at this
    exact hn0 this
  rw [← Hn.out] at hat
  have Hat := Lib.hid hat
  clear hat
  go_enter Try.func10, Try.ntmps10
  go_wp2_with fail
  go_loopw [15] (fun i wr => ∃ k : Nat, k ≤ n ∧ i = .int .i64 (k : Int) ∧ Hid (kfsTo ks k = 0) ∧ Below W.heap.size W wr) (fun i _ => n - (intOf i).toNat)
  case atStart => exact ⟨0, by omega, rfl, Lib.hid rfl, Below.refl _ _⟩
  case round =>
    obtain ⟨k, hk, rfl, hz, B⟩ := hrel
    by_cases hlt : k < n
    · have hki : (k : Int) < (n : Int) := by omega
      have hstep : kfsTo ks (k + 1) = kfAt ks k := by rw [kfsTo, if_neg (by rw [hz.out]; simp)]
      have Hst : Hid (∀ e : Int, e ≠ 0 → kfAt ks k = e → res = e) := Lib.hid fun e he h => by rw [← Hend.out]; exact kfsTo_stay ks (k + 1) e he (hstep.trans h) n (by omega)
      have Hnext : Hid (kfAt ks k = 0 → kfsTo ks (k + 1) = 0) := Lib.hid fun h => hstep.trans h
      clear hstep hz
      obtain ⟨c0, c1, c2, c3, c4, c5, c6, c7, c8, c9⟩ := (Hat.out k hlt).keep B hbl
      obtain ⟨-, -, z2, z3, z4, z5, z6, z7, z8, z9⟩ := (Hat.out 0 (by omega)).keep B hbl
      rw [show o + 0 * 10 = o by omega] at z2 z3 z4 z5 z6 z7 z8 z9
      have hsp := (Hpts.out k hlt).keep B
      have hpf : 0 < k → wr.cell? ⟨b, o + (k - 1) * 10, none⟩ = some (.int .i64 (ks.getD (k - 1) default).fr) := fun h => ((Hat.out (k - 1) (by omega)).keep B hbl).1
      unfold kfAt kfCf Kf.win at Hst Hnext
      unfold Kf.pv at c8 hsp z8
      generalize (ks.getD (k - 1) default).fr = pf at hpf Hst Hnext
      generalize (ks.getD k default).fr = fr at c0 Hst Hnext
      generalize (ks.getD k default).ease = ease at c1 Hst Hnext
      generalize (ks.getD k default).kind = kind at c2 Hst Hnext
      generalize (ks.getD k default).X = X at c3 Hst Hnext
      generalize (ks.getD k default).Y = Y at c4 Hst Hnext
      generalize (ks.getD k default).Wd = Wd at c5 Hst Hnext
      generalize (ks.getD k default).H = H at c6 Hst Hnext
      generalize (ks.getD k default).S = S at c7 Hst Hnext
      generalize (ks.getD k default).pa = pa at c8 hsp
      generalize (ks.getD k default).pc = pc at c8 hsp
      generalize (ks.getD k default).ps = ps at c8 hsp Hst Hnext
      generalize (ks.getD k default).out = out at c9 Hst Hnext
      generalize (ks.getD 0 default).kind = zkind at z2 Hst Hnext
      generalize (ks.getD 0 default).X = zX at z3
      generalize (ks.getD 0 default).Y = zY at z4
      generalize (ks.getD 0 default).Wd = zWd at z5
      generalize (ks.getD 0 default).H = zH at z6
      generalize (ks.getD 0 default).S = zS at z7
      generalize (ks.getD 0 default).pa = zpa at z8
      generalize (ks.getD 0 default).pc = zpc at z8
      generalize (ks.getD 0 default).ps.length = zpn at z8 Hst Hnext
      generalize (ks.getD 0 default).out = zout at z9 Hst Hnext
      obtain ⟨pn, hpn⟩ : ∃ pn, pn = ps.length := ⟨_, rfl⟩
      rw [← hpn] at c8 Hst Hnext hsp
      have Hsp := Lib.hid hsp
      have Hpf := Lib.hid hpf
      clear hsp hpf hpn
      go_upto_region 8 with fail
      refine name_world ?_
      intro w2 hw2
      have x4 : Bx w2 wr.heap.size 44 #[.int .i64 fr, .int .i64 ease, .int .i64 kind, .float .f32 X, .float .f32 Y, .float .f32 Wd, .float .f32 H, .float .f32 S, .slice pa pn pc, .bool out] := by rw [hw2]; exact Bx.new _ _ _
      have hb3 : Below wr.heap.size wr w2 := by rw [hw2]; exact bnew (Below.refl _ wr)
      have lBz := B.size
      have zs : ∀ i u, wr.cell? ⟨b, i, none⟩ = some u → w2.cell? ⟨b, i, none⟩ = some u := fun i u h => (hb3.cell (p := ⟨b, i, none⟩) (by show b < wr.heap.size; omega)).trans h
      replace z2 := zs _ _ z2
      replace z3 := zs _ _ z3
      replace z4 := zs _ _ z4
      replace z5 := zs _ _ z5
      replace z6 := zs _ _ z6
      replace z7 := zs _ _ z7
      replace z8 := zs _ _ z8
      replace z9 := zs _ _ z9
      have hpf := fun h => zs _ _ (Hpf.out h)
      replace Hpf := Lib.hid hpf
      have hsp := Hsp.out.keep hb3
      replace Hsp := Lib.hid hsp
      clear hsp hpf zs
      replace B := bcall B hb3
      clear hw2 c0 c1 c2 c3 c4 c5 c6 c7 c8 c9 hb3 lBz
      generalize wr.heap.size = p4 at *
      go_upto_region 9 with fail
      refine name_world ?_
      intro w3 hw3
      have y5 : Bx w3 w2.heap.size 25 #[.int .i64 zkind, .float .f32 zX, .float .f32 zY, .float .f32 zWd, .float .f32 zH, .float .f32 zS, .slice zpa zpn zpc, .bool zout] := by rw [hw3]; exact Bx.new _ _ _
      have hb3 : Below w2.heap.size w2 w3 := by rw [hw3]; exact bnew (Below.refl _ w2)
      have lBz := B.size
      have hpf := fun h => (hb3.cell (p := ⟨b, o + (k - 1) * 10, none⟩) (by show b < w2.heap.size; omega)).trans (Hpf.out h)
      replace Hpf := Lib.hid hpf
      have hsp := Hsp.out.keep hb3
      replace Hsp := Lib.hid hsp
      clear hsp hpf
      replace x4 := x4.keep hb3
      replace B := bcall B hb3
      clear hw3 hb3 lBz z2 z3 z4 z5 z6 z7 z8 z9
      obtain ⟨C, hC⟩ : ∃ C, C = decide (16777216 < fr) := ⟨_, rfl⟩
      obtain ⟨D, hD⟩ : ∃ D, D = decide (3 < ease) := ⟨_, rfl⟩
      have eC := hC.symm
      have eD := hD.symm
      cases hA : decide (fr < 0)
      all_goals cases hB : decide (ease < 1)
      all_goals
        have eA := hA
        have eB := hB
      · refine wp_region_grd 23 (fun _ => false) (fun q u w' => if q = 21 then ∃ gn, u = .slice (some ⟨gn, 0, none⟩) 3 3 ∧ w3.heap.size ≤ gn ∧ Bx w' gn 32 #[.int .i64 (whenV C 3), .int .i64 (whenV D 1), .int .i64 (winErr kind X Y Wd H S ps)] else u = [.pointer (some ⟨p4, 0, none⟩), .int .i64 fr, .bool false, .bool false, .pointer (some ⟨p4, 0, none⟩), .int .i64 fr, .bool C, .bool C, .int .i64 (whenV C 3), .pointer (some ⟨p4, 1, none⟩), .int .i64 ease, .bool false, .bool false, .pointer (some ⟨p4, 1, none⟩), .int .i64 ease, .bool D, .bool D, .int .i64 (whenV D 1), .pointer (some ⟨p4, 2, none⟩), .agg #[.int .i64 kind, .float .f32 X, .float .f32 Y, .float .f32 Wd, .float .f32 H, .float .f32 S, .slice pa pn pc, .bool out], .int .i64 (winErr kind X Y Wd H S ps), undef, .int .i64 (firstL [whenV C 3, whenV D 1, winErr kind X Y Wd H S ps])].getD q undef) (fun _ => false) (fun w' => Below w3.heap.size w3 w') (by kernel_rfl) (by kernel_rfl) (fun _ _ _ _ _ h => h)
          (fun _ _ h e => e.trans (h.mono e.size)) (fun t u a' b' hb h => ?_) (Below.refl _ _).drew ?_ ?_ ?_
        · split
          · rename_i h4
            rw [if_pos h4] at h
            obtain ⟨gn, e1, e2, e3⟩ := h
            exact ⟨gn, e1, e2, e3.keep hb⟩
          · rename_i h4
            rw [if_neg h4] at h
            exact h
        · intro t op ht hlt hop
          clear hlt
          rcases (by omega : t = 0 ∨ t = 1 ∨ t = 2 ∨ t = 3 ∨ t = 4 ∨ t = 5 ∨ t = 6 ∨ t = 7 ∨ t = 8 ∨ t = 9 ∨ t = 10 ∨ t = 11 ∨ t = 12 ∨ t = 13 ∨ t = 14 ∨ t = 15 ∨ t = 16 ∨ t = 17 ∨ t = 18 ∨ t = 19 ∨ t = 20 ∨ t = 21 ∨ t = 22) with rfl | rfl | rfl | rfl | rfl | rfl | rfl | rfl | rfl | rfl | rfl | rfl | rfl | rfl | rfl | rfl | rfl | rfl | rfl | rfl | rfl | rfl | rfl
          all_goals simp only [List.getElem?_cons_zero, List.getElem?_cons_succ, Option.some.injEq] at hop
          all_goals subst hop
          all_goals intro a wx hE hag hdep
          · refine grd_none rfl ?_
            have e0 := slot_eq (hag 4 rfl)
            exact rel_pure _ rfl rfl (by simp [go_sem, e0])
          · refine grd_none rfl ?_
            have e0 := slot_eq (hdep ⟨0, .data⟩ (by simp) rfl)
            have hq := (x4.keep hE).all.1
            exact rel_pure _ rfl rfl (by simp [go_sem, e0, hq])
          · refine grd_none rfl ?_
            have e0 := slot_eq (hdep ⟨1, .data⟩ (by simp) rfl)
            exact rel_pure _ rfl rfl (by simp [go_sem, e0, eA])
          · refine grd_none rfl ?_
            have e0 := slot_eq (hdep ⟨2, .data⟩ (by simp) rfl)
            exact rel_pure _ rfl rfl (by simp [go_sem, e0])
          · refine grd_yes (j := 3) (b := false) rfl (hdep ⟨3, .guard⟩ (by simp) rfl) ?_
            have e0 := slot_eq (hag 4 rfl)
            exact rel_pure _ rfl rfl (by simp [go_sem, e0])
          · refine grd_yes (j := 3) (b := false) rfl (hdep ⟨3, .guard⟩ (by simp) rfl) ?_
            have e0 := slot_eq (hdep ⟨4, .data⟩ (by simp) rfl)
            have hq := (x4.keep hE).all.1
            exact rel_pure _ rfl rfl (by simp [go_sem, e0, hq])
          · refine grd_yes (j := 3) (b := false) rfl (hdep ⟨3, .guard⟩ (by simp) rfl) ?_
            have e0 := slot_eq (hdep ⟨5, .data⟩ (by simp) rfl)
            exact rel_pure _ rfl rfl (by simp [go_sem, e0, eC])
          · refine grd_none rfl ?_
            have e0 := slot_eq (hdep ⟨3, .data⟩ (by simp) rfl)
            have e1 := slot_eq (hdep ⟨6, .data⟩ (by simp) rfl)
            exact rel_pure _ rfl rfl (by simp [go_sem, e0, e1])
          · refine grd_none rfl ?_
            have e0 := slot_eq (hdep ⟨7, .data⟩ (by simp) rfl)
            refine rel_call (f := 32) (args := #[.bool C, .int .i64 3]) (run_go_call Try.func32 (by kernel_rfl) (by kernel_rfl) _ _ _ _ _ _ _ _ _ _ (by simp [Act.eval, e0])) rfl ?_
            refine (ref_When C 3 wx).mono ?_
            rintro e w' ⟨rfl, rfl⟩
            exact ⟨_, rfl, rfl, Below.refl _ _⟩
          · refine grd_none rfl ?_
            have e0 := slot_eq (hag 4 rfl)
            exact rel_pure _ rfl rfl (by simp [go_sem, e0])
          · refine grd_none rfl ?_
            have e0 := slot_eq (hdep ⟨9, .data⟩ (by simp) rfl)
            have hq := (x4.keep hE).all.1
            exact rel_pure _ rfl rfl (by simp [go_sem, e0, hq])
          · refine grd_none rfl ?_
            have e0 := slot_eq (hdep ⟨10, .data⟩ (by simp) rfl)
            exact rel_pure _ rfl rfl (by simp [go_sem, e0, eB])
          · refine grd_none rfl ?_
            have e0 := slot_eq (hdep ⟨11, .data⟩ (by simp) rfl)
            exact rel_pure _ rfl rfl (by simp [go_sem, e0])
          · refine grd_yes (j := 12) (b := false) rfl (hdep ⟨12, .guard⟩ (by simp) rfl) ?_
            have e0 := slot_eq (hag 4 rfl)
            exact rel_pure _ rfl rfl (by simp [go_sem, e0])
          · refine grd_yes (j := 12) (b := false) rfl (hdep ⟨12, .guard⟩ (by simp) rfl) ?_
            have e0 := slot_eq (hdep ⟨13, .data⟩ (by simp) rfl)
            have hq := (x4.keep hE).all.1
            exact rel_pure _ rfl rfl (by simp [go_sem, e0, hq])
          · refine grd_yes (j := 12) (b := false) rfl (hdep ⟨12, .guard⟩ (by simp) rfl) ?_
            have e0 := slot_eq (hdep ⟨14, .data⟩ (by simp) rfl)
            exact rel_pure _ rfl rfl (by simp [go_sem, e0, eD])
          · refine grd_none rfl ?_
            have e0 := slot_eq (hdep ⟨12, .data⟩ (by simp) rfl)
            have e1 := slot_eq (hdep ⟨15, .data⟩ (by simp) rfl)
            exact rel_pure _ rfl rfl (by simp [go_sem, e0, e1])
          · refine grd_none rfl ?_
            have e0 := slot_eq (hdep ⟨16, .data⟩ (by simp) rfl)
            refine rel_call (f := 32) (args := #[.bool D, .int .i64 1]) (run_go_call Try.func32 (by kernel_rfl) (by kernel_rfl) _ _ _ _ _ _ _ _ _ _ (by simp [Act.eval, e0])) rfl ?_
            refine (ref_When D 1 wx).mono ?_
            rintro e w' ⟨rfl, rfl⟩
            exact ⟨_, rfl, rfl, Below.refl _ _⟩
          · refine grd_none rfl ?_
            have e0 := slot_eq (hag 4 rfl)
            exact rel_pure _ rfl rfl (by simp [go_sem, e0])
          · refine grd_none rfl ?_
            have e0 := slot_eq (hdep ⟨18, .data⟩ (by simp) rfl)
            have hq := (x4.keep hE).all.1
            exact rel_pure _ rfl rfl (by simp [go_sem, e0, hq])
          · refine grd_none rfl ?_
            have e0 := slot_eq (hdep ⟨19, .data⟩ (by simp) rfl)
            refine rel_call (f := 33) (args := #[.agg #[.int .i64 kind, .float .f32 X, .float .f32 Y, .float .f32 Wd, .float .f32 H, .float .f32 S, .slice pa pn pc, .bool out]]) (run_go_call Try.func33 (by kernel_rfl) (by kernel_rfl) _ _ _ _ _ _ _ _ _ _ (by simp [Act.eval, e0])) rfl ?_
            refine (ref_WindowError kind X Y Wd H S (.slice pa pn pc) ps out wx (Hsp.out.keep hE)).mono ?_
            rintro e w' ⟨rfl, hbx⟩
            exact ⟨_, rfl, rfl, hbx⟩
          · refine grd_none rfl ?_
            have e0 := slot_eq (hdep ⟨8, .data⟩ (by simp) rfl)
            have e1 := slot_eq (hdep ⟨17, .data⟩ (by simp) rfl)
            have e2 := slot_eq (hdep ⟨20, .data⟩ (by simp) rfl)
            exact rel_val (v := .slice (some ⟨wx.heap.size, 0, none⟩) 3 3) (w' := wx.alloc (.cells #[.int .i64 (whenV C 3), .int .i64 (whenV D 1), .int .i64 (winErr kind X Y Wd H S ps)] 32)) (by simp [go_sem, e0, e1, e2]) ⟨wx.heap.size, rfl, hE.size, Bx.new _ _ _⟩ (bnew (Below.refl _ _)) (fun h => by cases h)
          · refine grd_none rfl ?_
            obtain ⟨gn, e0, hgn, hgx⟩ := hdep ⟨21, .data⟩ (by simp) rfl
            have e0 := slot_eq e0
            refine rel_call (f := 31) (args := #[.slice (some ⟨gn, 0, none⟩) 3 3]) (run_go_call Try.func31 (by kernel_rfl) (by kernel_rfl) _ _ _ _ _ _ _ _ _ _ (by simp [Act.eval, e0])) rfl ?_
            refine (ref_FirstL [whenV C 3, whenV D 1, winErr kind X Y Wd H S ps] gn 3 3 32 wx rfl (by decide) hgx).mono ?_
            rintro e w' ⟨rfl, hbx⟩
            exact ⟨_, rfl, rfl, hbx⟩
        · intro t op ht hlt; cases hlt
        intro vs wy hE hvs _
        have k22 : vs 22 = .int .i64 (firstL [whenV C 3, whenV D 1, winErr kind X Y Wd H S ps]) := hvs 22 (by omega)
        simp only [List.drop_succ_cons, List.drop_zero, putAll, dstAt, List.getElem?_toArray, List.getElem?_cons_zero, List.getElem?_cons_succ, Option.bind_some, Act.put, List.setIfInBounds_toArray, List.set_cons_zero, List.set_cons_succ, k22]
        clear hvs k22
        rw [show firstL [whenV C 3, whenV D 1, winErr kind X Y Wd H S ps] = kf3 fr ease (winErr kind X Y Wd H S ps) from kf3_first hA hB hC hD (by simp) (by simp)]
        clear Hsp
        replace x4 := x4.keep hE
        replace y5 := y5.keep hE
        have hsz := B.size
        have hpf := fun h => (hE.cell (p := ⟨b, o + (k - 1) * 10, none⟩) (by show b < w3.heap.size; omega)).trans (Hpf.out h)
        replace B := B.trans (hE.mono hsz)
        clear hE hsz Hpf eA eB eC eD
        obtain ⟨q4, f4, l4⟩ := x4.all
        generalize winErr kind X Y Wd H S ps = we at Hst Hnext ⊢
        by_cases hne : kf3 fr ease we = 0
        rotate_left
        · obtain ⟨er, her⟩ : ∃ er, er = kf3 fr ease we := ⟨_, rfl⟩
          rw [← her] at hne ⊢
          obtain rfl : res = er := Hst.out _ hne (by rw [her]; exact kf3_err (by rw [← her]; exact hne))
          clear Hst Hnext hA hB hC hD her
          have ene : (res != 0) = true := by simpa using hne
          go_wp2_with fail
          go_ret
          exact ⟨rfl, B⟩
        rw [hne]
        obtain ⟨r1, r2, r3, r4, rfl⟩ := kf3_zero hne
        clear hne hA hB hC hD
        go_wp2_with fail
        by_cases hk0 : k = 0
        · subst hk0
          clear hpf
          go_quiet (fail)
          go_upto_region 14 with fail
          refine name_world ?_
          intro w6 hw6
          have y4 := bx_eqd2 hw6 x4
          have y6 := bx_eqd2 hw6 y5
          have B6 := b_eqd2 hw6 B
          clear hw6 x4 y5 q4 f4 l4 B
          have B := B6
          clear B6
          obtain ⟨q4, f4, l4⟩ := y4.all
          obtain ⟨q6, f6, l6⟩ := y6.all
          by_cases u1 : kind = zkind
          rotate_left
          · have hu1 : (kind != zkind) = true := by simpa using u1
            obtain rfl : res = 12 := Hst.out _ (by omega) (by unfold kfErr; rw [if_neg (by omega), if_neg (by omega), if_neg (by simp), if_neg (by omega), if_pos (by simp [*])])
            clear Hst Hnext
            go_wp2_with fail
            go_ret
            exact ⟨rfl, B⟩
          subst u1
          cases out
          all_goals cases zout
          rotate_left
          · obtain rfl : res = 12 := Hst.out _ (by omega) (by unfold kfErr; rw [if_neg (by omega), if_neg (by omega), if_neg (by simp), if_neg (by omega), if_pos (by simp [*])])
            clear Hst Hnext
            go_wp2_with fail
            go_ret
            exact ⟨rfl, B⟩
          · obtain rfl : res = 12 := Hst.out _ (by omega) (by unfold kfErr; rw [if_neg (by omega), if_neg (by omega), if_neg (by simp), if_neg (by omega), if_pos (by simp [*])])
            clear Hst Hnext
            go_wp2_with fail
            go_ret
            exact ⟨rfl, B⟩
          rotate_right
          all_goals
            by_cases u3 : pn = zpn
            · subst u3
              go_wp2_with fail
              go_roundw
              case rel => exact ⟨0 + 1, by omega, by go_num, Lib.hid (Hnext.out (by unfold kfErr; rw [if_neg (by omega), if_neg (by omega), if_neg (by simp), if_neg (by omega), if_neg (by simp)])), B⟩
              case measure => simp [intOf]; omega
            · have hu3 : ((pn : Int) != (zpn : Int)) = true := by simp; omega
              have hu4 : (pn != zpn) = true := by simpa using u3
              obtain rfl : res = 12 := Hst.out _ (by omega) (by unfold kfErr; rw [if_neg (by omega), if_neg (by omega), if_neg (by simp), if_neg (by omega), if_pos (by simp [*])])
              clear Hst Hnext
              go_wp2_with fail
              go_ret
              exact ⟨rfl, B⟩
        · obtain ⟨j, hj⟩ : ∃ j, k = j + 1 := ⟨k - 1, by omega⟩
          have hpf := hpf (by omega)
          rw [show k - 1 = j by omega] at hpf
          have dk : decide (0 < (k : Int)) = true := decide_eq_true (by omega)
          have dk2 : decide (0 < k) = true := decide_eq_true (by omega)
          have hkj : (k : Int) - 1 = (j : Int) := by omega
          have hjn : (j : Int) < (n : Int) := by omega
          have Hj := Lib.hid hj
          clear hj
          by_cases r5 : fr ≤ pf
          · have e5 : decide (fr ≤ pf) = true := decide_eq_true r5
            obtain rfl : res = 8 := Hst.out _ (by omega) (by unfold kfErr; rw [if_neg (by omega), if_neg (by omega), if_neg (by simp), if_pos (by omega)])
            clear Hst Hnext
            go_quiet (fail)
            go_wp2_with fail
            go_ret
            exact ⟨rfl, below_drewN B _⟩
          · have e5 : decide (fr ≤ pf) = false := decide_eq_false r5
            go_quiet (fail)
            go_upto_region 14 with fail
            refine name_world ?_
            intro w6 hw6
            have y4 := bx_eqd2 hw6 x4
            have y6 := bx_eqd2 hw6 y5
            have B6 := b_eqd2 hw6 B
            clear hw6 x4 y5 q4 f4 l4 B
            have B := B6
            clear B6
            obtain ⟨q4, f4, l4⟩ := y4.all
            obtain ⟨q6, f6, l6⟩ := y6.all
            by_cases u1 : kind = zkind
            rotate_left
            · have hu1 : (kind != zkind) = true := by simpa using u1
              obtain rfl : res = 12 := Hst.out _ (by omega) (by unfold kfErr; rw [if_neg (by omega), if_neg (by omega), if_neg (by simp), if_neg (by omega), if_pos (by simp [*])])
              clear Hst Hnext
              go_wp2_with fail
              go_ret
              exact ⟨rfl, B⟩
            subst u1
            cases out
            all_goals cases zout
            rotate_left
            · obtain rfl : res = 12 := Hst.out _ (by omega) (by unfold kfErr; rw [if_neg (by omega), if_neg (by omega), if_neg (by simp), if_neg (by omega), if_pos (by simp [*])])
              clear Hst Hnext
              go_wp2_with fail
              go_ret
              exact ⟨rfl, B⟩
            · obtain rfl : res = 12 := Hst.out _ (by omega) (by unfold kfErr; rw [if_neg (by omega), if_neg (by omega), if_neg (by simp), if_neg (by omega), if_pos (by simp [*])])
              clear Hst Hnext
              go_wp2_with fail
              go_ret
              exact ⟨rfl, B⟩
            rotate_right
            all_goals
              by_cases u3 : pn = zpn
              · subst u3
                go_wp2_with fail
                go_roundw
                case rel => exact ⟨k + 1, by omega, by go_num, Lib.hid (Hnext.out (by unfold kfErr; rw [if_neg (by omega), if_neg (by omega), if_neg (by simp), if_neg (by omega), if_neg (by simp)])), B⟩
                case measure => simp [intOf]; omega
              · have hu3 : ((pn : Int) != (zpn : Int)) = true := by simp; omega
                have hu4 : (pn != zpn) = true := by simpa using u3
                obtain rfl : res = 12 := Hst.out _ (by omega) (by unfold kfErr; rw [if_neg (by omega), if_neg (by omega), if_neg (by simp), if_neg (by omega), if_pos (by simp [*])])
                clear Hst Hnext
                go_wp2_with fail
                go_ret
                exact ⟨rfl, B⟩
      · refine wp_region_grd 23 (fun _ => false) (fun q u w' => if q = 21 then ∃ gn, u = .slice (some ⟨gn, 0, none⟩) 3 3 ∧ w3.heap.size ≤ gn ∧ Bx w' gn 32 #[.int .i64 (whenV C 3), .int .i64 (whenV true 1), .int .i64 (winErr kind X Y Wd H S ps)] else u = [.pointer (some ⟨p4, 0, none⟩), .int .i64 fr, .bool false, .bool false, .pointer (some ⟨p4, 0, none⟩), .int .i64 fr, .bool C, .bool C, .int .i64 (whenV C 3), .pointer (some ⟨p4, 1, none⟩), .int .i64 ease, .bool true, .bool true, undef, undef, undef, .bool true, .int .i64 (whenV true 1), .pointer (some ⟨p4, 2, none⟩), .agg #[.int .i64 kind, .float .f32 X, .float .f32 Y, .float .f32 Wd, .float .f32 H, .float .f32 S, .slice pa pn pc, .bool out], .int .i64 (winErr kind X Y Wd H S ps), undef, .int .i64 (firstL [whenV C 3, whenV true 1, winErr kind X Y Wd H S ps])].getD q undef) (fun _ => false) (fun w' => Below w3.heap.size w3 w') (by kernel_rfl) (by kernel_rfl) (fun _ _ _ _ _ h => h)
          (fun _ _ h e => e.trans (h.mono e.size)) (fun t u a' b' hb h => ?_) (Below.refl _ _).drew ?_ ?_ ?_
        · split
          · rename_i h4
            rw [if_pos h4] at h
            obtain ⟨gn, e1, e2, e3⟩ := h
            exact ⟨gn, e1, e2, e3.keep hb⟩
          · rename_i h4
            rw [if_neg h4] at h
            exact h
        · intro t op ht hlt hop
          clear hlt
          rcases (by omega : t = 0 ∨ t = 1 ∨ t = 2 ∨ t = 3 ∨ t = 4 ∨ t = 5 ∨ t = 6 ∨ t = 7 ∨ t = 8 ∨ t = 9 ∨ t = 10 ∨ t = 11 ∨ t = 12 ∨ t = 13 ∨ t = 14 ∨ t = 15 ∨ t = 16 ∨ t = 17 ∨ t = 18 ∨ t = 19 ∨ t = 20 ∨ t = 21 ∨ t = 22) with rfl | rfl | rfl | rfl | rfl | rfl | rfl | rfl | rfl | rfl | rfl | rfl | rfl | rfl | rfl | rfl | rfl | rfl | rfl | rfl | rfl | rfl | rfl
          all_goals simp only [List.getElem?_cons_zero, List.getElem?_cons_succ, Option.some.injEq] at hop
          all_goals subst hop
          all_goals intro a wx hE hag hdep
          · refine grd_none rfl ?_
            have e0 := slot_eq (hag 4 rfl)
            exact rel_pure _ rfl rfl (by simp [go_sem, e0])
          · refine grd_none rfl ?_
            have e0 := slot_eq (hdep ⟨0, .data⟩ (by simp) rfl)
            have hq := (x4.keep hE).all.1
            exact rel_pure _ rfl rfl (by simp [go_sem, e0, hq])
          · refine grd_none rfl ?_
            have e0 := slot_eq (hdep ⟨1, .data⟩ (by simp) rfl)
            exact rel_pure _ rfl rfl (by simp [go_sem, e0, eA])
          · refine grd_none rfl ?_
            have e0 := slot_eq (hdep ⟨2, .data⟩ (by simp) rfl)
            exact rel_pure _ rfl rfl (by simp [go_sem, e0])
          · refine grd_yes (j := 3) (b := false) rfl (hdep ⟨3, .guard⟩ (by simp) rfl) ?_
            have e0 := slot_eq (hag 4 rfl)
            exact rel_pure _ rfl rfl (by simp [go_sem, e0])
          · refine grd_yes (j := 3) (b := false) rfl (hdep ⟨3, .guard⟩ (by simp) rfl) ?_
            have e0 := slot_eq (hdep ⟨4, .data⟩ (by simp) rfl)
            have hq := (x4.keep hE).all.1
            exact rel_pure _ rfl rfl (by simp [go_sem, e0, hq])
          · refine grd_yes (j := 3) (b := false) rfl (hdep ⟨3, .guard⟩ (by simp) rfl) ?_
            have e0 := slot_eq (hdep ⟨5, .data⟩ (by simp) rfl)
            exact rel_pure _ rfl rfl (by simp [go_sem, e0, eC])
          · refine grd_none rfl ?_
            have e0 := slot_eq (hdep ⟨3, .data⟩ (by simp) rfl)
            have e1 := slot_eq (hdep ⟨6, .data⟩ (by simp) rfl)
            exact rel_pure _ rfl rfl (by simp [go_sem, e0, e1])
          · refine grd_none rfl ?_
            have e0 := slot_eq (hdep ⟨7, .data⟩ (by simp) rfl)
            refine rel_call (f := 32) (args := #[.bool C, .int .i64 3]) (run_go_call Try.func32 (by kernel_rfl) (by kernel_rfl) _ _ _ _ _ _ _ _ _ _ (by simp [Act.eval, e0])) rfl ?_
            refine (ref_When C 3 wx).mono ?_
            rintro e w' ⟨rfl, rfl⟩
            exact ⟨_, rfl, rfl, Below.refl _ _⟩
          · refine grd_none rfl ?_
            have e0 := slot_eq (hag 4 rfl)
            exact rel_pure _ rfl rfl (by simp [go_sem, e0])
          · refine grd_none rfl ?_
            have e0 := slot_eq (hdep ⟨9, .data⟩ (by simp) rfl)
            have hq := (x4.keep hE).all.1
            exact rel_pure _ rfl rfl (by simp [go_sem, e0, hq])
          · refine grd_none rfl ?_
            have e0 := slot_eq (hdep ⟨10, .data⟩ (by simp) rfl)
            exact rel_pure _ rfl rfl (by simp [go_sem, e0, eB])
          · refine grd_none rfl ?_
            have e0 := slot_eq (hdep ⟨11, .data⟩ (by simp) rfl)
            exact rel_pure _ rfl rfl (by simp [go_sem, e0])
          · exact grd_no (j := 12) (b := false) rfl (hdep ⟨12, .guard⟩ (by simp) rfl) rfl rfl
          · exact grd_no (j := 12) (b := false) rfl (hdep ⟨12, .guard⟩ (by simp) rfl) rfl rfl
          · exact grd_no (j := 12) (b := false) rfl (hdep ⟨12, .guard⟩ (by simp) rfl) rfl rfl
          · refine grd_none rfl ?_
            have e0 := slot_eq (hdep ⟨12, .data⟩ (by simp) rfl)
            exact rel_pure _ rfl rfl (by simp [go_sem, e0])
          · refine grd_none rfl ?_
            have e0 := slot_eq (hdep ⟨16, .data⟩ (by simp) rfl)
            refine rel_call (f := 32) (args := #[.bool true, .int .i64 1]) (run_go_call Try.func32 (by kernel_rfl) (by kernel_rfl) _ _ _ _ _ _ _ _ _ _ (by simp [Act.eval, e0])) rfl ?_
            refine (ref_When true 1 wx).mono ?_
            rintro e w' ⟨rfl, rfl⟩
            exact ⟨_, rfl, rfl, Below.refl _ _⟩
          · refine grd_none rfl ?_
            have e0 := slot_eq (hag 4 rfl)
            exact rel_pure _ rfl rfl (by simp [go_sem, e0])
          · refine grd_none rfl ?_
            have e0 := slot_eq (hdep ⟨18, .data⟩ (by simp) rfl)
            have hq := (x4.keep hE).all.1
            exact rel_pure _ rfl rfl (by simp [go_sem, e0, hq])
          · refine grd_none rfl ?_
            have e0 := slot_eq (hdep ⟨19, .data⟩ (by simp) rfl)
            refine rel_call (f := 33) (args := #[.agg #[.int .i64 kind, .float .f32 X, .float .f32 Y, .float .f32 Wd, .float .f32 H, .float .f32 S, .slice pa pn pc, .bool out]]) (run_go_call Try.func33 (by kernel_rfl) (by kernel_rfl) _ _ _ _ _ _ _ _ _ _ (by simp [Act.eval, e0])) rfl ?_
            refine (ref_WindowError kind X Y Wd H S (.slice pa pn pc) ps out wx (Hsp.out.keep hE)).mono ?_
            rintro e w' ⟨rfl, hbx⟩
            exact ⟨_, rfl, rfl, hbx⟩
          · refine grd_none rfl ?_
            have e0 := slot_eq (hdep ⟨8, .data⟩ (by simp) rfl)
            have e1 := slot_eq (hdep ⟨17, .data⟩ (by simp) rfl)
            have e2 := slot_eq (hdep ⟨20, .data⟩ (by simp) rfl)
            exact rel_val (v := .slice (some ⟨wx.heap.size, 0, none⟩) 3 3) (w' := wx.alloc (.cells #[.int .i64 (whenV C 3), .int .i64 (whenV true 1), .int .i64 (winErr kind X Y Wd H S ps)] 32)) (by simp [go_sem, e0, e1, e2]) ⟨wx.heap.size, rfl, hE.size, Bx.new _ _ _⟩ (bnew (Below.refl _ _)) (fun h => by cases h)
          · refine grd_none rfl ?_
            obtain ⟨gn, e0, hgn, hgx⟩ := hdep ⟨21, .data⟩ (by simp) rfl
            have e0 := slot_eq e0
            refine rel_call (f := 31) (args := #[.slice (some ⟨gn, 0, none⟩) 3 3]) (run_go_call Try.func31 (by kernel_rfl) (by kernel_rfl) _ _ _ _ _ _ _ _ _ _ (by simp [Act.eval, e0])) rfl ?_
            refine (ref_FirstL [whenV C 3, whenV true 1, winErr kind X Y Wd H S ps] gn 3 3 32 wx rfl (by decide) hgx).mono ?_
            rintro e w' ⟨rfl, hbx⟩
            exact ⟨_, rfl, rfl, hbx⟩
        · intro t op ht hlt; cases hlt
        intro vs wy hE hvs _
        have k22 : vs 22 = .int .i64 (firstL [whenV C 3, whenV true 1, winErr kind X Y Wd H S ps]) := hvs 22 (by omega)
        simp only [List.drop_succ_cons, List.drop_zero, putAll, dstAt, List.getElem?_toArray, List.getElem?_cons_zero, List.getElem?_cons_succ, Option.bind_some, Act.put, List.setIfInBounds_toArray, List.set_cons_zero, List.set_cons_succ, k22]
        clear hvs k22
        rw [show firstL [whenV C 3, whenV true 1, winErr kind X Y Wd H S ps] = kf3 fr ease (winErr kind X Y Wd H S ps) from kf3_first hA hB hC hD (by simp) (by simp)]
        clear Hsp
        replace x4 := x4.keep hE
        replace y5 := y5.keep hE
        have hsz := B.size
        have hpf := fun h => (hE.cell (p := ⟨b, o + (k - 1) * 10, none⟩) (by show b < w3.heap.size; omega)).trans (Hpf.out h)
        replace B := B.trans (hE.mono hsz)
        clear hE hsz Hpf eA eB eC eD
        obtain ⟨q4, f4, l4⟩ := x4.all
        generalize winErr kind X Y Wd H S ps = we at Hst Hnext ⊢
        have hne : kf3 fr ease we ≠ 0 := kf3_neb (by simpa using hB)
        obtain ⟨er, her⟩ : ∃ er, er = kf3 fr ease we := ⟨_, rfl⟩
        rw [← her] at hne ⊢
        obtain rfl : res = er := Hst.out _ hne (by rw [her]; exact kf3_err (by rw [← her]; exact hne))
        clear Hst Hnext hA hB hC hD her
        have ene : (res != 0) = true := by simpa using hne
        go_wp2_with fail
        go_ret
        exact ⟨rfl, B⟩
      · refine wp_region_grd 23 (fun _ => false) (fun q u w' => if q = 21 then ∃ gn, u = .slice (some ⟨gn, 0, none⟩) 3 3 ∧ w3.heap.size ≤ gn ∧ Bx w' gn 32 #[.int .i64 (whenV true 3), .int .i64 (whenV D 1), .int .i64 (winErr kind X Y Wd H S ps)] else u = [.pointer (some ⟨p4, 0, none⟩), .int .i64 fr, .bool true, .bool true, undef, undef, undef, .bool true, .int .i64 (whenV true 3), .pointer (some ⟨p4, 1, none⟩), .int .i64 ease, .bool false, .bool false, .pointer (some ⟨p4, 1, none⟩), .int .i64 ease, .bool D, .bool D, .int .i64 (whenV D 1), .pointer (some ⟨p4, 2, none⟩), .agg #[.int .i64 kind, .float .f32 X, .float .f32 Y, .float .f32 Wd, .float .f32 H, .float .f32 S, .slice pa pn pc, .bool out], .int .i64 (winErr kind X Y Wd H S ps), undef, .int .i64 (firstL [whenV true 3, whenV D 1, winErr kind X Y Wd H S ps])].getD q undef) (fun _ => false) (fun w' => Below w3.heap.size w3 w') (by kernel_rfl) (by kernel_rfl) (fun _ _ _ _ _ h => h)
          (fun _ _ h e => e.trans (h.mono e.size)) (fun t u a' b' hb h => ?_) (Below.refl _ _).drew ?_ ?_ ?_
        · split
          · rename_i h4
            rw [if_pos h4] at h
            obtain ⟨gn, e1, e2, e3⟩ := h
            exact ⟨gn, e1, e2, e3.keep hb⟩
          · rename_i h4
            rw [if_neg h4] at h
            exact h
        · intro t op ht hlt hop
          clear hlt
          rcases (by omega : t = 0 ∨ t = 1 ∨ t = 2 ∨ t = 3 ∨ t = 4 ∨ t = 5 ∨ t = 6 ∨ t = 7 ∨ t = 8 ∨ t = 9 ∨ t = 10 ∨ t = 11 ∨ t = 12 ∨ t = 13 ∨ t = 14 ∨ t = 15 ∨ t = 16 ∨ t = 17 ∨ t = 18 ∨ t = 19 ∨ t = 20 ∨ t = 21 ∨ t = 22) with rfl | rfl | rfl | rfl | rfl | rfl | rfl | rfl | rfl | rfl | rfl | rfl | rfl | rfl | rfl | rfl | rfl | rfl | rfl | rfl | rfl | rfl | rfl
          all_goals simp only [List.getElem?_cons_zero, List.getElem?_cons_succ, Option.some.injEq] at hop
          all_goals subst hop
          all_goals intro a wx hE hag hdep
          · refine grd_none rfl ?_
            have e0 := slot_eq (hag 4 rfl)
            exact rel_pure _ rfl rfl (by simp [go_sem, e0])
          · refine grd_none rfl ?_
            have e0 := slot_eq (hdep ⟨0, .data⟩ (by simp) rfl)
            have hq := (x4.keep hE).all.1
            exact rel_pure _ rfl rfl (by simp [go_sem, e0, hq])
          · refine grd_none rfl ?_
            have e0 := slot_eq (hdep ⟨1, .data⟩ (by simp) rfl)
            exact rel_pure _ rfl rfl (by simp [go_sem, e0, eA])
          · refine grd_none rfl ?_
            have e0 := slot_eq (hdep ⟨2, .data⟩ (by simp) rfl)
            exact rel_pure _ rfl rfl (by simp [go_sem, e0])
          · exact grd_no (j := 3) (b := false) rfl (hdep ⟨3, .guard⟩ (by simp) rfl) rfl rfl
          · exact grd_no (j := 3) (b := false) rfl (hdep ⟨3, .guard⟩ (by simp) rfl) rfl rfl
          · exact grd_no (j := 3) (b := false) rfl (hdep ⟨3, .guard⟩ (by simp) rfl) rfl rfl
          · refine grd_none rfl ?_
            have e0 := slot_eq (hdep ⟨3, .data⟩ (by simp) rfl)
            exact rel_pure _ rfl rfl (by simp [go_sem, e0])
          · refine grd_none rfl ?_
            have e0 := slot_eq (hdep ⟨7, .data⟩ (by simp) rfl)
            refine rel_call (f := 32) (args := #[.bool true, .int .i64 3]) (run_go_call Try.func32 (by kernel_rfl) (by kernel_rfl) _ _ _ _ _ _ _ _ _ _ (by simp [Act.eval, e0])) rfl ?_
            refine (ref_When true 3 wx).mono ?_
            rintro e w' ⟨rfl, rfl⟩
            exact ⟨_, rfl, rfl, Below.refl _ _⟩
          · refine grd_none rfl ?_
            have e0 := slot_eq (hag 4 rfl)
            exact rel_pure _ rfl rfl (by simp [go_sem, e0])
          · refine grd_none rfl ?_
            have e0 := slot_eq (hdep ⟨9, .data⟩ (by simp) rfl)
            have hq := (x4.keep hE).all.1
            exact rel_pure _ rfl rfl (by simp [go_sem, e0, hq])
          · refine grd_none rfl ?_
            have e0 := slot_eq (hdep ⟨10, .data⟩ (by simp) rfl)
            exact rel_pure _ rfl rfl (by simp [go_sem, e0, eB])
          · refine grd_none rfl ?_
            have e0 := slot_eq (hdep ⟨11, .data⟩ (by simp) rfl)
            exact rel_pure _ rfl rfl (by simp [go_sem, e0])
          · refine grd_yes (j := 12) (b := false) rfl (hdep ⟨12, .guard⟩ (by simp) rfl) ?_
            have e0 := slot_eq (hag 4 rfl)
            exact rel_pure _ rfl rfl (by simp [go_sem, e0])
          · refine grd_yes (j := 12) (b := false) rfl (hdep ⟨12, .guard⟩ (by simp) rfl) ?_
            have e0 := slot_eq (hdep ⟨13, .data⟩ (by simp) rfl)
            have hq := (x4.keep hE).all.1
            exact rel_pure _ rfl rfl (by simp [go_sem, e0, hq])
          · refine grd_yes (j := 12) (b := false) rfl (hdep ⟨12, .guard⟩ (by simp) rfl) ?_
            have e0 := slot_eq (hdep ⟨14, .data⟩ (by simp) rfl)
            exact rel_pure _ rfl rfl (by simp [go_sem, e0, eD])
          · refine grd_none rfl ?_
            have e0 := slot_eq (hdep ⟨12, .data⟩ (by simp) rfl)
            have e1 := slot_eq (hdep ⟨15, .data⟩ (by simp) rfl)
            exact rel_pure _ rfl rfl (by simp [go_sem, e0, e1])
          · refine grd_none rfl ?_
            have e0 := slot_eq (hdep ⟨16, .data⟩ (by simp) rfl)
            refine rel_call (f := 32) (args := #[.bool D, .int .i64 1]) (run_go_call Try.func32 (by kernel_rfl) (by kernel_rfl) _ _ _ _ _ _ _ _ _ _ (by simp [Act.eval, e0])) rfl ?_
            refine (ref_When D 1 wx).mono ?_
            rintro e w' ⟨rfl, rfl⟩
            exact ⟨_, rfl, rfl, Below.refl _ _⟩
          · refine grd_none rfl ?_
            have e0 := slot_eq (hag 4 rfl)
            exact rel_pure _ rfl rfl (by simp [go_sem, e0])
          · refine grd_none rfl ?_
            have e0 := slot_eq (hdep ⟨18, .data⟩ (by simp) rfl)
            have hq := (x4.keep hE).all.1
            exact rel_pure _ rfl rfl (by simp [go_sem, e0, hq])
          · refine grd_none rfl ?_
            have e0 := slot_eq (hdep ⟨19, .data⟩ (by simp) rfl)
            refine rel_call (f := 33) (args := #[.agg #[.int .i64 kind, .float .f32 X, .float .f32 Y, .float .f32 Wd, .float .f32 H, .float .f32 S, .slice pa pn pc, .bool out]]) (run_go_call Try.func33 (by kernel_rfl) (by kernel_rfl) _ _ _ _ _ _ _ _ _ _ (by simp [Act.eval, e0])) rfl ?_
            refine (ref_WindowError kind X Y Wd H S (.slice pa pn pc) ps out wx (Hsp.out.keep hE)).mono ?_
            rintro e w' ⟨rfl, hbx⟩
            exact ⟨_, rfl, rfl, hbx⟩
          · refine grd_none rfl ?_
            have e0 := slot_eq (hdep ⟨8, .data⟩ (by simp) rfl)
            have e1 := slot_eq (hdep ⟨17, .data⟩ (by simp) rfl)
            have e2 := slot_eq (hdep ⟨20, .data⟩ (by simp) rfl)
            exact rel_val (v := .slice (some ⟨wx.heap.size, 0, none⟩) 3 3) (w' := wx.alloc (.cells #[.int .i64 (whenV true 3), .int .i64 (whenV D 1), .int .i64 (winErr kind X Y Wd H S ps)] 32)) (by simp [go_sem, e0, e1, e2]) ⟨wx.heap.size, rfl, hE.size, Bx.new _ _ _⟩ (bnew (Below.refl _ _)) (fun h => by cases h)
          · refine grd_none rfl ?_
            obtain ⟨gn, e0, hgn, hgx⟩ := hdep ⟨21, .data⟩ (by simp) rfl
            have e0 := slot_eq e0
            refine rel_call (f := 31) (args := #[.slice (some ⟨gn, 0, none⟩) 3 3]) (run_go_call Try.func31 (by kernel_rfl) (by kernel_rfl) _ _ _ _ _ _ _ _ _ _ (by simp [Act.eval, e0])) rfl ?_
            refine (ref_FirstL [whenV true 3, whenV D 1, winErr kind X Y Wd H S ps] gn 3 3 32 wx rfl (by decide) hgx).mono ?_
            rintro e w' ⟨rfl, hbx⟩
            exact ⟨_, rfl, rfl, hbx⟩
        · intro t op ht hlt; cases hlt
        intro vs wy hE hvs _
        have k22 : vs 22 = .int .i64 (firstL [whenV true 3, whenV D 1, winErr kind X Y Wd H S ps]) := hvs 22 (by omega)
        simp only [List.drop_succ_cons, List.drop_zero, putAll, dstAt, List.getElem?_toArray, List.getElem?_cons_zero, List.getElem?_cons_succ, Option.bind_some, Act.put, List.setIfInBounds_toArray, List.set_cons_zero, List.set_cons_succ, k22]
        clear hvs k22
        rw [show firstL [whenV true 3, whenV D 1, winErr kind X Y Wd H S ps] = kf3 fr ease (winErr kind X Y Wd H S ps) from kf3_first hA hB hC hD (by simp) (by simp)]
        clear Hsp
        replace x4 := x4.keep hE
        replace y5 := y5.keep hE
        have hsz := B.size
        have hpf := fun h => (hE.cell (p := ⟨b, o + (k - 1) * 10, none⟩) (by show b < w3.heap.size; omega)).trans (Hpf.out h)
        replace B := B.trans (hE.mono hsz)
        clear hE hsz Hpf eA eB eC eD
        obtain ⟨q4, f4, l4⟩ := x4.all
        generalize winErr kind X Y Wd H S ps = we at Hst Hnext ⊢
        have hne : kf3 fr ease we ≠ 0 := kf3_nea (by simpa using hA)
        obtain ⟨er, her⟩ : ∃ er, er = kf3 fr ease we := ⟨_, rfl⟩
        rw [← her] at hne ⊢
        obtain rfl : res = er := Hst.out _ hne (by rw [her]; exact kf3_err (by rw [← her]; exact hne))
        clear Hst Hnext hA hB hC hD her
        have ene : (res != 0) = true := by simpa using hne
        go_wp2_with fail
        go_ret
        exact ⟨rfl, B⟩
      · refine wp_region_grd 23 (fun _ => false) (fun q u w' => if q = 21 then ∃ gn, u = .slice (some ⟨gn, 0, none⟩) 3 3 ∧ w3.heap.size ≤ gn ∧ Bx w' gn 32 #[.int .i64 (whenV true 3), .int .i64 (whenV true 1), .int .i64 (winErr kind X Y Wd H S ps)] else u = [.pointer (some ⟨p4, 0, none⟩), .int .i64 fr, .bool true, .bool true, undef, undef, undef, .bool true, .int .i64 (whenV true 3), .pointer (some ⟨p4, 1, none⟩), .int .i64 ease, .bool true, .bool true, undef, undef, undef, .bool true, .int .i64 (whenV true 1), .pointer (some ⟨p4, 2, none⟩), .agg #[.int .i64 kind, .float .f32 X, .float .f32 Y, .float .f32 Wd, .float .f32 H, .float .f32 S, .slice pa pn pc, .bool out], .int .i64 (winErr kind X Y Wd H S ps), undef, .int .i64 (firstL [whenV true 3, whenV true 1, winErr kind X Y Wd H S ps])].getD q undef) (fun _ => false) (fun w' => Below w3.heap.size w3 w') (by kernel_rfl) (by kernel_rfl) (fun _ _ _ _ _ h => h)
          (fun _ _ h e => e.trans (h.mono e.size)) (fun t u a' b' hb h => ?_) (Below.refl _ _).drew ?_ ?_ ?_
        · split
          · rename_i h4
            rw [if_pos h4] at h
            obtain ⟨gn, e1, e2, e3⟩ := h
            exact ⟨gn, e1, e2, e3.keep hb⟩
          · rename_i h4
            rw [if_neg h4] at h
            exact h
        · intro t op ht hlt hop
          clear hlt
          rcases (by omega : t = 0 ∨ t = 1 ∨ t = 2 ∨ t = 3 ∨ t = 4 ∨ t = 5 ∨ t = 6 ∨ t = 7 ∨ t = 8 ∨ t = 9 ∨ t = 10 ∨ t = 11 ∨ t = 12 ∨ t = 13 ∨ t = 14 ∨ t = 15 ∨ t = 16 ∨ t = 17 ∨ t = 18 ∨ t = 19 ∨ t = 20 ∨ t = 21 ∨ t = 22) with rfl | rfl | rfl | rfl | rfl | rfl | rfl | rfl | rfl | rfl | rfl | rfl | rfl | rfl | rfl | rfl | rfl | rfl | rfl | rfl | rfl | rfl | rfl
          all_goals simp only [List.getElem?_cons_zero, List.getElem?_cons_succ, Option.some.injEq] at hop
          all_goals subst hop
          all_goals intro a wx hE hag hdep
          · refine grd_none rfl ?_
            have e0 := slot_eq (hag 4 rfl)
            exact rel_pure _ rfl rfl (by simp [go_sem, e0])
          · refine grd_none rfl ?_
            have e0 := slot_eq (hdep ⟨0, .data⟩ (by simp) rfl)
            have hq := (x4.keep hE).all.1
            exact rel_pure _ rfl rfl (by simp [go_sem, e0, hq])
          · refine grd_none rfl ?_
            have e0 := slot_eq (hdep ⟨1, .data⟩ (by simp) rfl)
            exact rel_pure _ rfl rfl (by simp [go_sem, e0, eA])
          · refine grd_none rfl ?_
            have e0 := slot_eq (hdep ⟨2, .data⟩ (by simp) rfl)
            exact rel_pure _ rfl rfl (by simp [go_sem, e0])
          · exact grd_no (j := 3) (b := false) rfl (hdep ⟨3, .guard⟩ (by simp) rfl) rfl rfl
          · exact grd_no (j := 3) (b := false) rfl (hdep ⟨3, .guard⟩ (by simp) rfl) rfl rfl
          · exact grd_no (j := 3) (b := false) rfl (hdep ⟨3, .guard⟩ (by simp) rfl) rfl rfl
          · refine grd_none rfl ?_
            have e0 := slot_eq (hdep ⟨3, .data⟩ (by simp) rfl)
            exact rel_pure _ rfl rfl (by simp [go_sem, e0])
          · refine grd_none rfl ?_
            have e0 := slot_eq (hdep ⟨7, .data⟩ (by simp) rfl)
            refine rel_call (f := 32) (args := #[.bool true, .int .i64 3]) (run_go_call Try.func32 (by kernel_rfl) (by kernel_rfl) _ _ _ _ _ _ _ _ _ _ (by simp [Act.eval, e0])) rfl ?_
            refine (ref_When true 3 wx).mono ?_
            rintro e w' ⟨rfl, rfl⟩
            exact ⟨_, rfl, rfl, Below.refl _ _⟩
          · refine grd_none rfl ?_
            have e0 := slot_eq (hag 4 rfl)
            exact rel_pure _ rfl rfl (by simp [go_sem, e0])
          · refine grd_none rfl ?_
            have e0 := slot_eq (hdep ⟨9, .data⟩ (by simp) rfl)
            have hq := (x4.keep hE).all.1
            exact rel_pure _ rfl rfl (by simp [go_sem, e0, hq])
          · refine grd_none rfl ?_
            have e0 := slot_eq (hdep ⟨10, .data⟩ (by simp) rfl)
            exact rel_pure _ rfl rfl (by simp [go_sem, e0, eB])
          · refine grd_none rfl ?_
            have e0 := slot_eq (hdep ⟨11, .data⟩ (by simp) rfl)
            exact rel_pure _ rfl rfl (by simp [go_sem, e0])
          · exact grd_no (j := 12) (b := false) rfl (hdep ⟨12, .guard⟩ (by simp) rfl) rfl rfl
          · exact grd_no (j := 12) (b := false) rfl (hdep ⟨12, .guard⟩ (by simp) rfl) rfl rfl
          · exact grd_no (j := 12) (b := false) rfl (hdep ⟨12, .guard⟩ (by simp) rfl) rfl rfl
          · refine grd_none rfl ?_
            have e0 := slot_eq (hdep ⟨12, .data⟩ (by simp) rfl)
            exact rel_pure _ rfl rfl (by simp [go_sem, e0])
          · refine grd_none rfl ?_
            have e0 := slot_eq (hdep ⟨16, .data⟩ (by simp) rfl)
            refine rel_call (f := 32) (args := #[.bool true, .int .i64 1]) (run_go_call Try.func32 (by kernel_rfl) (by kernel_rfl) _ _ _ _ _ _ _ _ _ _ (by simp [Act.eval, e0])) rfl ?_
            refine (ref_When true 1 wx).mono ?_
            rintro e w' ⟨rfl, rfl⟩
            exact ⟨_, rfl, rfl, Below.refl _ _⟩
          · refine grd_none rfl ?_
            have e0 := slot_eq (hag 4 rfl)
            exact rel_pure _ rfl rfl (by simp [go_sem, e0])
          · refine grd_none rfl ?_
            have e0 := slot_eq (hdep ⟨18, .data⟩ (by simp) rfl)
            have hq := (x4.keep hE).all.1
            exact rel_pure _ rfl rfl (by simp [go_sem, e0, hq])
          · refine grd_none rfl ?_
            have e0 := slot_eq (hdep ⟨19, .data⟩ (by simp) rfl)
            refine rel_call (f := 33) (args := #[.agg #[.int .i64 kind, .float .f32 X, .float .f32 Y, .float .f32 Wd, .float .f32 H, .float .f32 S, .slice pa pn pc, .bool out]]) (run_go_call Try.func33 (by kernel_rfl) (by kernel_rfl) _ _ _ _ _ _ _ _ _ _ (by simp [Act.eval, e0])) rfl ?_
            refine (ref_WindowError kind X Y Wd H S (.slice pa pn pc) ps out wx (Hsp.out.keep hE)).mono ?_
            rintro e w' ⟨rfl, hbx⟩
            exact ⟨_, rfl, rfl, hbx⟩
          · refine grd_none rfl ?_
            have e0 := slot_eq (hdep ⟨8, .data⟩ (by simp) rfl)
            have e1 := slot_eq (hdep ⟨17, .data⟩ (by simp) rfl)
            have e2 := slot_eq (hdep ⟨20, .data⟩ (by simp) rfl)
            exact rel_val (v := .slice (some ⟨wx.heap.size, 0, none⟩) 3 3) (w' := wx.alloc (.cells #[.int .i64 (whenV true 3), .int .i64 (whenV true 1), .int .i64 (winErr kind X Y Wd H S ps)] 32)) (by simp [go_sem, e0, e1, e2]) ⟨wx.heap.size, rfl, hE.size, Bx.new _ _ _⟩ (bnew (Below.refl _ _)) (fun h => by cases h)
          · refine grd_none rfl ?_
            obtain ⟨gn, e0, hgn, hgx⟩ := hdep ⟨21, .data⟩ (by simp) rfl
            have e0 := slot_eq e0
            refine rel_call (f := 31) (args := #[.slice (some ⟨gn, 0, none⟩) 3 3]) (run_go_call Try.func31 (by kernel_rfl) (by kernel_rfl) _ _ _ _ _ _ _ _ _ _ (by simp [Act.eval, e0])) rfl ?_
            refine (ref_FirstL [whenV true 3, whenV true 1, winErr kind X Y Wd H S ps] gn 3 3 32 wx rfl (by decide) hgx).mono ?_
            rintro e w' ⟨rfl, hbx⟩
            exact ⟨_, rfl, rfl, hbx⟩
        · intro t op ht hlt; cases hlt
        intro vs wy hE hvs _
        have k22 : vs 22 = .int .i64 (firstL [whenV true 3, whenV true 1, winErr kind X Y Wd H S ps]) := hvs 22 (by omega)
        simp only [List.drop_succ_cons, List.drop_zero, putAll, dstAt, List.getElem?_toArray, List.getElem?_cons_zero, List.getElem?_cons_succ, Option.bind_some, Act.put, List.setIfInBounds_toArray, List.set_cons_zero, List.set_cons_succ, k22]
        clear hvs k22
        rw [show firstL [whenV true 3, whenV true 1, winErr kind X Y Wd H S ps] = kf3 fr ease (winErr kind X Y Wd H S ps) from kf3_first hA hB hC hD (by simp) (by simp)]
        clear Hsp
        replace x4 := x4.keep hE
        replace y5 := y5.keep hE
        have hsz := B.size
        have hpf := fun h => (hE.cell (p := ⟨b, o + (k - 1) * 10, none⟩) (by show b < w3.heap.size; omega)).trans (Hpf.out h)
        replace B := B.trans (hE.mono hsz)
        clear hE hsz Hpf eA eB eC eD
        obtain ⟨q4, f4, l4⟩ := x4.all
        generalize winErr kind X Y Wd H S ps = we at Hst Hnext ⊢
        have hne : kf3 fr ease we ≠ 0 := kf3_nea (by simpa using hA)
        obtain ⟨er, her⟩ : ∃ er, er = kf3 fr ease we := ⟨_, rfl⟩
        rw [← her] at hne ⊢
        obtain rfl : res = er := Hst.out _ hne (by rw [her]; exact kf3_err (by rw [← her]; exact hne))
        clear Hst Hnext hA hB hC hD her
        have ene : (res != 0) = true := by simpa using hne
        go_wp2_with fail
        go_ret
        exact ⟨rfl, B⟩
    · obtain rfl : k = n := by omega
      obtain rfl : res = 0 := by rw [← Hend.out]; exact hz.out
      go_wp2_with fail
      go_ret
      exact ⟨rfl, B⟩
end Go.Proofs.Ytfkiljhjiogdlaa
