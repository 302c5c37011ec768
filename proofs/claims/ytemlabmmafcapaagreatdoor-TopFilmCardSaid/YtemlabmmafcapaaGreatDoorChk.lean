/- conform.CheckList. (printed by gen_chk.py) -/
import Derived.Test.YtemlabmmafcapaaGreatDoorSlp
import Derived.Test.YtemlabmmafcapaaGreatDoorGrd
namespace Go.Proofs.YtemlabmmafcapaaGreatDoor
open Go.RowKit

theorem bx_eq {w w' : World} {b : Nat} {T : TypeId} {cs : Array Value} (h : w' = w) (x : Bx w b T cs) : Bx w' b T cs := by rw [h]; exact x
theorem bx_eqd {w w' : World} {b m : Nat} {T : TypeId} {cs : Array Value} (h : w' = w.drewN m) (x : Bx w b T cs) : Bx w' b T cs := by rw [h]; exact x.drewN m
theorem b_eq {W w w' : World} {B : Nat} (h : w' = w) (x : Below B W w) : Below B W w' := by rw [h]; exact x
theorem b_eqd {W w w' : World} {B m : Nat} (h : w' = w.drewN m) (x : Below B W w) : Below B W w' := by rw [h]; exact below_drewN x m
set_option maxRecDepth 100000 in
set_option maxHeartbeats 16000000 in
theorem conform_CheckList (title : ByteArray) (rate : Int) (v : Value) (es : List Ev) (W : World) (hs : SlE W v es) :
    Calls Tryz.prog 11 #[.agg #[.string title, .int .i64 rate, v]] W fun e w' => e = .returned (.int .i64 (editsErr title rate es)) ∧ Below W.heap.size W w' := by
  obtain ⟨a, c, rfl, hmax, hform⟩ := hs
  unfold maxLen at hmax
  obtain ⟨n, hn⟩ : ∃ n, n = es.length := ⟨_, rfl⟩
  rw [← hn] at hmax ⊢
  have Hn := Lib.hid hn
  generalize hres : editsErr title rate es = res
  have Hres := Lib.hid hres
  clear hres hn
  go_enter Tryz.func11, Tryz.ntmps11
  go_upto_region 1 with fail
  refine name_world ?_
  intro w0 hw0
  have x1 : Bx w0 W.heap.size 24 #[.string title, .int .i64 rate, .slice a n c] := by rw [hw0]; exact Bx.new _ _ _
  have B : Below W.heap.size W w0 := by rw [hw0]; exact bnew (Below.refl _ W)
  clear hw0
  obtain ⟨q1, f1, l1⟩ := x1.all
  go_wp2_with fail
  refine (conform_isName _ _).mono ?_
  rintro e w1 ⟨rfl, hb1⟩
  replace x1 := x1.keep hb1
  replace B := bcall B hb1
  clear hb1 q1 f1 l1
  obtain ⟨q1, f1, l1⟩ := x1.all
  cases hnm : nameB title
  · have hr : res = 6 := by rw [← Hres.out, editsErr, if_pos hnm]
    have Hr := Lib.hid hr
    clear hr hnm
    go_wp2_with fail
    go_ret
    exact ⟨ret_int Hr.out.symm, B⟩
  go_wp2_with fail
  refine (conform_isRate _ _).mono ?_
  rintro e w2 ⟨rfl, hb2⟩
  replace x1 := x1.keep hb2
  replace B := bcall B hb2
  clear hb2 q1 f1 l1
  obtain ⟨q1, f1, l1⟩ := x1.all
  cases hrt : rateB rate
  · have hr : res = 1 := by rw [← Hres.out, editsErr, if_neg (by rw [hnm]; simp), if_pos hrt]
    have Hr := Lib.hid hr
    clear hr hnm hrt
    go_wp2_with fail
    go_ret
    exact ⟨ret_int Hr.out.symm, B⟩
  have hr : res = if 500 < n then 4 else evsTo es n := by rw [← Hres.out, editsErr, if_neg (by rw [hnm]; simp), if_neg (by rw [hrt]; simp), ← Hn.out]
  clear hnm hrt
  by_cases h5 : 500 < n
  · rw [if_pos h5] at hr
    have Hr := Lib.hid hr
    clear hr
    have e5 : decide (500 < (n : Int)) = true := by simp; omega
    go_wp2_with fail
    go_ret
    exact ⟨ret_int Hr.out.symm, B⟩
  rw [if_neg h5] at hr
  have Hr := Lib.hid hr
  clear hr
  have e5 : decide (500 < (n : Int)) = false := by simp; omega
  go_wp2_with fail
  go_loopw [3, 4, 25] (fun s3 s4 i wr => ∃ (k : Nat) (bb : Bool) (bf : Int), k ≤ n ∧ s3 = .int .i64 bf ∧ s4 = .bool bb ∧ i = .int .i64 (k : Int) ∧ bb = decide (0 < k) ∧ Hid (bf = befE es k) ∧ Hid (evsTo es k = 0) ∧ Below W.heap.size W wr ∧ Bx wr W.heap.size 24 #[.string title, .int .i64 rate, .slice a n c]) (fun _ _ i _ => n - (intOf i).toNat)
  case atStart => exact ⟨0, false, 0, by omega, rfl, rfl, rfl, by simp, Lib.hid rfl, Lib.hid rfl, B, x1⟩
  case round =>
    obtain ⟨k, bb, bf, hk, rfl, rfl, rfl, hbb, hbf, hz0, hb, x1⟩ := hrel
    clear q1 f1 l1
    by_cases hlt : k < n
    · rcases hform with h0 | ⟨b, o, rfl, hbl, hat⟩
      · exfalso
        have := Hn.out
        rw [h0] at this
        simp at this
        omega
      have hlen : ∀ m, m < n → m < es.length := fun m hm => by rw [← Hn.out]; exact hm
      have hst : ∀ e, e ≠ 0 → errAt es k = e → res = e := fun e he h => by
        rw [Hr.out]
        exact evsTo_stay es (k + 1) e he (by rw [evsTo, if_neg (by rw [hz0.out]; simp)]; exact h) n hlt
      have hnx : errAt es k = 0 → Hid (evsTo es (k + 1) = 0) := fun h => Lib.hid (by rw [evsTo, if_neg (by rw [hz0.out]; simp)]; exact h)
      have Hst0 := Lib.hid hst
      have Hnx0 := Lib.hid hnx
      obtain ⟨c0, c1, c2, c3, c4, c5⟩ := (hat k (hlen k hlt)).keep hb hbl
      have hev : errAt es k = evErr (nameB (es.getD k default).reel) (es.getD k default).kind (es.getD k default).len (es.getD k default).inn (es.getD k default).out (es.getD k default).pos (befE es k) k := rfl
      have hbn : Hid (befE es (k + 1) = (es.getD k default).pos + ((es.getD k default).out - (es.getD k default).inn)) := Lib.hid (by rw [befE, if_neg (by omega), Nat.add_sub_cancel, Ev.stop]; omega)
      rw [← hbf.out] at hev
      clear hst hnx hat hlen hbl
      generalize (es.getD k default).reel = reel at c0 hev
      generalize (es.getD k default).kind = kind at c1 hev
      generalize (es.getD k default).len = len at c2 hev
      generalize (es.getD k default).inn = inn at c3 hev hbn
      generalize (es.getD k default).out = out at c4 hev hbn
      generalize (es.getD k default).pos = pos at c5 hev hbn
      have Hbf : Hid (pos + (out - inn) = befE es (k + 1)) := Lib.hid hbn.out.symm
      have Hev0 := Lib.hid hev
      clear hev hbn
      have hki : (k : Int) < (n : Int) := by omega
      go_upto_region 11 with fail
      refine name_world ?_
      intro w3 hw3
      have x4 : Bx w3 wr.heap.size 55 #[.string reel, .int .i64 kind, .int .i64 len, .int .i64 inn, .int .i64 out, .int .i64 pos] := by rw [hw3]; exact Bx.new _ _ _
      have hb9 : Below wr.heap.size wr w3 := by rw [hw3]; exact bnew (Below.refl _ wr)
      clear hw3 c0 c1 c2 c3 c4 c5
      replace x1 := x1.keep hb9
      replace hb := bcall hb hb9
      clear hb9
      obtain ⟨q1, f1, l1⟩ := x1.all
      obtain ⟨q4, f4, l4⟩ := x4.all
      by_cases hk0 : k = 0
      · subst hk0
        obtain rfl : bb = false := by simpa using hbb
        obtain rfl : bf = 0 := hbf.out
        clear hbb hbf
        go_wp2_with fail
        refine (conform_isName _ _).mono ?_
        rintro e w5 ⟨rfl, hb5⟩
        replace x1 := x1.keep hb5
        replace x4 := x4.keep hb5
        replace hb := bcall hb hb5
        clear hb5 q1 f1 l1 q4 f4 l4
        obtain ⟨q1, f1, l1⟩ := x1.all
        obtain ⟨q4, f4, l4⟩ := x4.all
        generalize nameB reel = nm at Hev0 ⊢
        have Hst := Lib.hid (fun e he (h : evErr nm kind len inn out pos 0 0 = e) => Hst0.out e he (Hev0.out.trans h))
        have Hnext := Lib.hid (fun (h : evErr nm kind len inn out pos 0 0 = 0) => Hnx0.out (Hev0.out.trans h))
        clear Hst0 Hnx0 Hev0 hz0
        cases nm
        · go_wp2_with fail
          go_ret
          exact ⟨ret_int (Hst.out 6 (by omega) (by rw [evErr, if_pos rfl])).symm, hb⟩
        by_cases k1 : kind = 1 ∨ kind = 2
        rotate_left
        · have d1 : (kind != 1) = true := by simp; omega
          have d2 : (kind != 2) = true := by simp; omega
          go_wp2_with fail
          go_ret
          exact ⟨ret_int (Hst.out 1 (by omega) (by rw [evErr]; rw [if_neg (by simp), if_pos (by omega)])).symm, hb⟩
        rcases k1 with rfl | rfl
        · by_cases r1 : inn < 0
          · have er1 : decide (inn < 0) = true := decide_eq_true r1
            go_wp2_with fail
            go_ret
            exact ⟨ret_int (Hst.out 3 (by omega) (by rw [evErr]; rw [if_neg (by simp), if_neg (by omega), if_pos (by omega)])).symm, hb⟩
          have er1 : decide (inn < 0) = false := decide_eq_false r1
          by_cases r2 : out ≤ inn
          · have er2 : decide (out ≤ inn) = true := decide_eq_true r2
            go_wp2_with fail
            go_ret
            exact ⟨ret_int (Hst.out 3 (by omega) (by rw [evErr]; rw [if_neg (by simp), if_neg (by omega), if_pos (by omega)])).symm, hb⟩
          have er2 : decide (out ≤ inn) = false := decide_eq_false r2
          by_cases r3 : 16777216 < out
          · have er3 : decide (16777216 < out) = true := decide_eq_true r3
            go_wp2_with fail
            go_ret
            exact ⟨ret_int (Hst.out 3 (by omega) (by rw [evErr]; rw [if_neg (by simp), if_neg (by omega), if_pos (by omega)])).symm, hb⟩
          have er3 : decide (16777216 < out) = false := decide_eq_false r3
          by_cases r5 : pos < 0
          · have er5 : decide (pos < 0) = true := decide_eq_true r5
            go_wp2_with fail
            go_ret
            exact ⟨ret_int (Hst.out 3 (by omega) (by rw [evErr]; rw [if_neg (by simp), if_neg (by omega), if_pos (by omega)])).symm, hb⟩
          have er5 : decide (pos < 0) = false := decide_eq_false r5
          by_cases r4 : 16777216 < pos
          · have er4 : decide (16777216 < pos) = true := decide_eq_true r4
            go_wp2_with fail
            go_ret
            exact ⟨ret_int (Hst.out 3 (by omega) (by rw [evErr]; rw [if_neg (by simp), if_neg (by omega), if_pos (by omega)])).symm, hb⟩
          have er4 : decide (16777216 < pos) = false := decide_eq_false r4
          by_cases s1 : len = 0
          rotate_left
          · have es1 : (len != 0) = true := by simpa using s1
            go_wp2_with fail
            go_ret
            exact ⟨ret_int (Hst.out 12 (by omega) (by rw [evErr]; rw [if_neg (by simp), if_neg (by omega), if_neg (by omega), if_neg (by omega), if_pos (by omega)])).symm, hb⟩
          have es1 : (len != 0) = false := by simpa using s1
          go_wp2_with fail
          go_quiet (fail)
          go_wp2_with fail
          refine name_world ?_
          intro wz hwn
          replace x1 := bx_eqd hwn x1
          replace x4 := bx_eqd hwn x4
          replace hb := b_eqd hwn hb
          clear hwn q1 f1 l1 q4 f4 l4
          refine wp_region_grd 5 (fun _ => false) (fun q u w' => u = [.pointer (some ⟨wr.heap.size, 5, none⟩), .int .i64 pos, .agg #[.string reel, .int .i64 1, .int .i64 len, .int .i64 inn, .int .i64 out, .int .i64 pos], .int .i64 (out - inn), .int .i64 (pos + (out - inn))].getD q undef) (fun _ => false) (fun w' => Below wz.heap.size wz w') (by kernel_rfl) (by kernel_rfl) (fun _ _ _ _ _ h => h)
            (fun _ _ h e => e.trans (h.mono e.size)) (fun t u a' b' hb h => ?_) (Below.refl _ _).drew ?_ ?_ ?_
          · exact h
          · intro t op ht hlt hop
            clear hlt
            rcases (by omega : t = 0 ∨ t = 1 ∨ t = 2 ∨ t = 3 ∨ t = 4) with rfl | rfl | rfl | rfl | rfl
            all_goals simp only [List.getElem?_cons_zero, List.getElem?_cons_succ, Option.some.injEq] at hop
            all_goals subst hop
            all_goals intro a wx hE hag hdep
            · refine grd_none rfl ?_
              have e0 := slot_eq (hag 6 rfl)
              exact rel_pure _ rfl rfl (by simp [go_sem, e0])
            · refine grd_none rfl ?_
              have e0 := slot_eq (hdep ⟨0, .data⟩ (by simp) rfl)
              have hq := (x4.keep hE).all.1
              exact rel_pure _ rfl rfl (by simp [go_sem, e0, hq])
            · refine grd_none rfl ?_
              have e0 := slot_eq (hag 6 rfl)
              have hq := (x4.keep hE).all.1
              exact rel_pure _ rfl rfl (by simp [go_sem, e0, hq])
            · refine grd_none rfl ?_
              have e0 := slot_eq (hdep ⟨2, .data⟩ (by simp) rfl)
              refine rel_call (f := 15) (args := #[.agg #[.string reel, .int .i64 1, .int .i64 len, .int .i64 inn, .int .i64 out, .int .i64 pos]]) (run_go_call Tryz.func15 (by kernel_rfl) (by kernel_rfl) _ _ _ _ _ _ _ _ _ _ (by simp [Act.eval, e0])) rfl ?_
              refine (conform_long reel 1 len inn out pos wx (by omega) (by omega) (by omega)).mono ?_
              rintro e w' ⟨rfl, hbx⟩
              exact ⟨_, rfl, rfl, hbx⟩
            · refine grd_none rfl ?_
              have e0 := slot_eq (hdep ⟨1, .data⟩ (by simp) rfl)
              have e1 := slot_eq (hdep ⟨3, .data⟩ (by simp) rfl)
              have hw : IntKind.i64.wrap (pos + (out - inn)) = pos + (out - inn) := IntWalk.i64_in _ (by omega)
              exact rel_pure _ rfl rfl (by simp [go_sem, e0, e1, hw])
          · intro t op ht hlt; cases hlt
          · intro vs wy hE hvs _
            have k4 : vs 4 = .int .i64 (pos + (out - inn)) := hvs 4 (by omega)
            simp only [List.drop_succ_cons, List.drop_zero, putAll, dstAt, List.getElem?_toArray, List.getElem?_cons_zero, List.getElem?_cons_succ, Option.bind_some, Act.put, List.setIfInBounds_toArray, List.set_cons_zero, List.set_cons_succ, k4]
            clear hvs k4
            replace x1 := x1.keep hE
            replace hb := hb.trans (hE.mono hb.size)
            clear hE x4
            obtain ⟨q1, f1, l1⟩ := x1.all
            go_wp2_with fail
            go_roundw
            case rel => exact ⟨0 + 1, true, pos + (out - inn), by omega, rfl, rfl, by go_num, by simp, Hbf, Hnext.out (by rw [evErr]; rw [if_neg (by simp), if_neg (by omega), if_neg (by omega), if_neg (by omega), if_neg (by omega)]), hb, x1⟩
            case measure => simp [intOf]; omega
        · by_cases r1 : inn < 0
          · have er1 : decide (inn < 0) = true := decide_eq_true r1
            go_wp2_with fail
            go_ret
            exact ⟨ret_int (Hst.out 3 (by omega) (by rw [evErr]; rw [if_neg (by simp), if_neg (by omega), if_pos (by omega)])).symm, hb⟩
          have er1 : decide (inn < 0) = false := decide_eq_false r1
          by_cases r2 : out ≤ inn
          · have er2 : decide (out ≤ inn) = true := decide_eq_true r2
            go_wp2_with fail
            go_ret
            exact ⟨ret_int (Hst.out 3 (by omega) (by rw [evErr]; rw [if_neg (by simp), if_neg (by omega), if_pos (by omega)])).symm, hb⟩
          have er2 : decide (out ≤ inn) = false := decide_eq_false r2
          by_cases r3 : 16777216 < out
          · have er3 : decide (16777216 < out) = true := decide_eq_true r3
            go_wp2_with fail
            go_ret
            exact ⟨ret_int (Hst.out 3 (by omega) (by rw [evErr]; rw [if_neg (by simp), if_neg (by omega), if_pos (by omega)])).symm, hb⟩
          have er3 : decide (16777216 < out) = false := decide_eq_false r3
          by_cases r5 : pos < 0
          · have er5 : decide (pos < 0) = true := decide_eq_true r5
            go_wp2_with fail
            go_ret
            exact ⟨ret_int (Hst.out 3 (by omega) (by rw [evErr]; rw [if_neg (by simp), if_neg (by omega), if_pos (by omega)])).symm, hb⟩
          have er5 : decide (pos < 0) = false := decide_eq_false r5
          by_cases r4 : 16777216 < pos
          · have er4 : decide (16777216 < pos) = true := decide_eq_true r4
            go_wp2_with fail
            go_ret
            exact ⟨ret_int (Hst.out 3 (by omega) (by rw [evErr]; rw [if_neg (by simp), if_neg (by omega), if_pos (by omega)])).symm, hb⟩
          have er4 : decide (16777216 < pos) = false := decide_eq_false r4
          by_cases s1 : len < 1
          · have es1 : decide (len < 1) = true := decide_eq_true s1
            go_wp2_with fail
            go_quiet (fail)
            go_wp2_with fail
            go_ret
            exact ⟨ret_int (Hst.out 12 (by omega) (by rw [evErr]; rw [if_neg (by simp), if_neg (by omega), if_neg (by omega), if_neg (by omega), if_pos (by omega)])).symm, below_drewN hb _⟩
          have es1 : decide (len < 1) = false := decide_eq_false s1
          by_cases s3 : 250 < len
          · have es3 : decide (250 < len) = true := decide_eq_true s3
            go_wp2_with fail
            go_quiet (fail)
            go_wp2_with fail
            go_ret
            exact ⟨ret_int (Hst.out 12 (by omega) (by rw [evErr]; rw [if_neg (by simp), if_neg (by omega), if_neg (by omega), if_neg (by omega), if_pos (by omega)])).symm, below_drewN hb _⟩
          have es3 : decide (250 < len) = false := decide_eq_false s3
          go_wp2_with fail
          by_cases s2 : out - inn < len
          · have es2 : decide (out - inn < len) = true := decide_eq_true s2
            refine name_world ?_
            intro wz hwn
            replace x1 := bx_eq hwn x1
            replace x4 := bx_eq hwn x4
            replace hb := b_eq hwn hb
            clear hwn q1 f1 l1 q4 f4 l4
            refine wp_region_grd 30 (fun _ => false) (fun q u w' => u = [.pointer (some ⟨wr.heap.size, 1, none⟩), .int .i64 2, .bool true, .bool true, .pointer (some ⟨wr.heap.size, 2, none⟩), .int .i64 len, .bool false, .bool false, .pointer (some ⟨wr.heap.size, 2, none⟩), .int .i64 len, .bool false, .bool false, .bool false, .pointer (some ⟨wr.heap.size, 2, none⟩), .int .i64 len, .agg #[.string reel, .int .i64 2, .int .i64 len, .int .i64 inn, .int .i64 out, .int .i64 pos], .int .i64 (out - inn), .bool true, .bool true, .bool true, undef, undef, .bool true, .bool true, undef, undef, undef, undef, .bool true, .bool true].getD q undef) (fun _ => false) (fun w' => Below wz.heap.size wz w') (by kernel_rfl) (by kernel_rfl) (fun _ _ _ _ _ h => h)
              (fun _ _ h e => e.trans (h.mono e.size)) (fun t u a' b' hb h => ?_) (Below.refl _ _).drew ?_ ?_ ?_
            · exact h
            · intro t op ht hlt hop
              clear hlt
              rcases (by omega : t = 0 ∨ t = 1 ∨ t = 2 ∨ t = 3 ∨ t = 4 ∨ t = 5 ∨ t = 6 ∨ t = 7 ∨ t = 8 ∨ t = 9 ∨ t = 10 ∨ t = 11 ∨ t = 12 ∨ t = 13 ∨ t = 14 ∨ t = 15 ∨ t = 16 ∨ t = 17 ∨ t = 18 ∨ t = 19 ∨ t = 20 ∨ t = 21 ∨ t = 22 ∨ t = 23 ∨ t = 24 ∨ t = 25 ∨ t = 26 ∨ t = 27 ∨ t = 28 ∨ t = 29) with rfl | rfl | rfl | rfl | rfl | rfl | rfl | rfl | rfl | rfl | rfl | rfl | rfl | rfl | rfl | rfl | rfl | rfl | rfl | rfl | rfl | rfl | rfl | rfl | rfl | rfl | rfl | rfl | rfl | rfl
              all_goals simp only [List.getElem?_cons_zero, List.getElem?_cons_succ, Option.some.injEq] at hop
              all_goals subst hop
              all_goals intro a wx hE hag hdep
              · refine grd_none rfl ?_
                have e0 := slot_eq (hag 6 rfl)
                exact rel_pure _ rfl rfl (by simp [go_sem, e0])
              · refine grd_none rfl ?_
                have e0 := slot_eq (hdep ⟨0, .data⟩ (by simp) rfl)
                have hq := (x4.keep hE).all.1
                exact rel_pure _ rfl rfl (by simp [go_sem, e0, hq])
              · refine grd_none rfl ?_
                have e0 := slot_eq (hdep ⟨1, .data⟩ (by simp) rfl)
                exact rel_pure _ rfl rfl (by simp [go_sem, e0])
              · refine grd_none rfl ?_
                have e0 := slot_eq (hdep ⟨2, .data⟩ (by simp) rfl)
                exact rel_pure _ rfl rfl (by simp [go_sem, e0])
              · refine grd_yes (j := 3) (b := true) rfl (hdep ⟨3, .guard⟩ (by simp) rfl) ?_
                have e0 := slot_eq (hag 6 rfl)
                exact rel_pure _ rfl rfl (by simp [go_sem, e0])
              · refine grd_yes (j := 3) (b := true) rfl (hdep ⟨3, .guard⟩ (by simp) rfl) ?_
                have e0 := slot_eq (hdep ⟨4, .data⟩ (by simp) rfl)
                have hq := (x4.keep hE).all.1
                exact rel_pure _ rfl rfl (by simp [go_sem, e0, hq])
              · refine grd_yes (j := 3) (b := true) rfl (hdep ⟨3, .guard⟩ (by simp) rfl) ?_
                have e0 := slot_eq (hdep ⟨5, .data⟩ (by simp) rfl)
                exact rel_pure _ rfl rfl (by simp [go_sem, e0, es1])
              · refine grd_yes (j := 3) (b := true) rfl (hdep ⟨3, .guard⟩ (by simp) rfl) ?_
                have e0 := slot_eq (hdep ⟨6, .data⟩ (by simp) rfl)
                exact rel_pure _ rfl rfl (by simp [go_sem, e0])
              · refine grd_yes (j := 7) (b := false) rfl (hdep ⟨7, .guard⟩ (by simp) rfl) ?_
                have e0 := slot_eq (hag 6 rfl)
                exact rel_pure _ rfl rfl (by simp [go_sem, e0])
              · refine grd_yes (j := 7) (b := false) rfl (hdep ⟨7, .guard⟩ (by simp) rfl) ?_
                have e0 := slot_eq (hdep ⟨8, .data⟩ (by simp) rfl)
                have hq := (x4.keep hE).all.1
                exact rel_pure _ rfl rfl (by simp [go_sem, e0, hq])
              · refine grd_yes (j := 7) (b := false) rfl (hdep ⟨7, .guard⟩ (by simp) rfl) ?_
                have e0 := slot_eq (hdep ⟨9, .data⟩ (by simp) rfl)
                exact rel_pure _ rfl rfl (by simp [go_sem, e0, es3])
              · refine grd_yes (j := 3) (b := true) rfl (hdep ⟨3, .guard⟩ (by simp) rfl) ?_
                have e0 := slot_eq (hdep ⟨7, .data⟩ (by simp) rfl)
                have e1 := slot_eq (hdep ⟨10, .data⟩ (by simp) rfl)
                exact rel_pure _ rfl rfl (by simp [go_sem, e0, e1])
              · refine grd_yes (j := 3) (b := true) rfl (hdep ⟨3, .guard⟩ (by simp) rfl) ?_
                have e0 := slot_eq (hdep ⟨11, .data⟩ (by simp) rfl)
                exact rel_pure _ rfl rfl (by simp [go_sem, e0])
              · refine grd_yes (j := 12) (b := false) rfl (hdep ⟨12, .guard⟩ (by simp) rfl) ?_
                have e0 := slot_eq (hag 6 rfl)
                exact rel_pure _ rfl rfl (by simp [go_sem, e0])
              · refine grd_yes (j := 12) (b := false) rfl (hdep ⟨12, .guard⟩ (by simp) rfl) ?_
                have e0 := slot_eq (hdep ⟨13, .data⟩ (by simp) rfl)
                have hq := (x4.keep hE).all.1
                exact rel_pure _ rfl rfl (by simp [go_sem, e0, hq])
              · refine grd_yes (j := 12) (b := false) rfl (hdep ⟨12, .guard⟩ (by simp) rfl) ?_
                have e0 := slot_eq (hag 6 rfl)
                have hq := (x4.keep hE).all.1
                exact rel_pure _ rfl rfl (by simp [go_sem, e0, hq])
              · refine grd_yes (j := 12) (b := false) rfl (hdep ⟨12, .guard⟩ (by simp) rfl) ?_
                have e0 := slot_eq (hdep ⟨15, .data⟩ (by simp) rfl)
                refine rel_call (f := 15) (args := #[.agg #[.string reel, .int .i64 2, .int .i64 len, .int .i64 inn, .int .i64 out, .int .i64 pos]]) (run_go_call Tryz.func15 (by kernel_rfl) (by kernel_rfl) _ _ _ _ _ _ _ _ _ _ (by simp [Act.eval, e0])) rfl ?_
                refine (conform_long reel 2 len inn out pos wx (by omega) (by omega) (by omega)).mono ?_
                rintro e w' ⟨rfl, hbx⟩
                exact ⟨_, rfl, rfl, hbx⟩
              · refine grd_yes (j := 12) (b := false) rfl (hdep ⟨12, .guard⟩ (by simp) rfl) ?_
                have e0 := slot_eq (hdep ⟨14, .data⟩ (by simp) rfl)
                have e1 := slot_eq (hdep ⟨16, .data⟩ (by simp) rfl)
                exact rel_pure _ rfl rfl (by simp [go_sem, e0, e1, es2])
              · refine grd_yes (j := 3) (b := true) rfl (hdep ⟨3, .guard⟩ (by simp) rfl) ?_
                have e0 := slot_eq (hdep ⟨12, .data⟩ (by simp) rfl)
                have e1 := slot_eq (hdep ⟨17, .data⟩ (by simp) rfl)
                exact rel_pure _ rfl rfl (by simp [go_sem, e0, e1])
              · refine grd_yes (j := 3) (b := true) rfl (hdep ⟨3, .guard⟩ (by simp) rfl) ?_
                have e0 := slot_eq (hdep ⟨18, .data⟩ (by simp) rfl)
                exact rel_pure _ rfl rfl (by simp [go_sem, e0])
              · exact grd_no (j := 19) (b := false) rfl (hdep ⟨19, .guard⟩ (by simp) rfl) rfl rfl
              · exact grd_no (j := 19) (b := false) rfl (hdep ⟨19, .guard⟩ (by simp) rfl) rfl rfl
              · refine grd_yes (j := 3) (b := true) rfl (hdep ⟨3, .guard⟩ (by simp) rfl) ?_
                have e0 := slot_eq (hdep ⟨19, .data⟩ (by simp) rfl)
                exact rel_pure _ rfl rfl (by simp [go_sem, e0])
              · refine grd_yes (j := 3) (b := true) rfl (hdep ⟨3, .guard⟩ (by simp) rfl) ?_
                have e0 := slot_eq (hdep ⟨22, .data⟩ (by simp) rfl)
                exact rel_pure _ rfl rfl (by simp [go_sem, e0])
              · exact grd_no (j := 23) (b := false) rfl (hdep ⟨23, .guard⟩ (by simp) rfl) rfl rfl
              · exact grd_no (j := 23) (b := false) rfl (hdep ⟨23, .guard⟩ (by simp) rfl) rfl rfl
              · exact grd_no (j := 23) (b := false) rfl (hdep ⟨23, .guard⟩ (by simp) rfl) rfl rfl
              · exact grd_no (j := 23) (b := false) rfl (hdep ⟨23, .guard⟩ (by simp) rfl) rfl rfl
              · refine grd_yes (j := 3) (b := true) rfl (hdep ⟨3, .guard⟩ (by simp) rfl) ?_
                have e0 := slot_eq (hdep ⟨23, .data⟩ (by simp) rfl)
                exact rel_pure _ rfl rfl (by simp [go_sem, e0])
              · refine grd_none rfl ?_
                have e0 := slot_eq (hdep ⟨3, .data⟩ (by simp) rfl)
                have e1 := slot_eq (hdep ⟨28, .data⟩ (by simp) rfl)
                exact rel_pure _ rfl rfl (by simp [go_sem, e0, e1])
            · intro t op ht hlt; cases hlt
            · intro vs wy hE hvs _
              have k29 : vs 29 = .bool true := hvs 29 (by omega)
              simp only [List.drop_succ_cons, List.drop_zero, putAll, dstAt, List.getElem?_toArray, List.getElem?_cons_zero, List.getElem?_cons_succ, Option.bind_some, Act.put, List.setIfInBounds_toArray, List.set_cons_zero, List.set_cons_succ, k29]
              clear hvs k29
              replace x1 := x1.keep hE
              replace x4 := x4.keep hE
              replace hb := hb.trans (hE.mono hb.size)
              clear hE
              obtain ⟨q1, f1, l1⟩ := x1.all
              obtain ⟨q4, f4, l4⟩ := x4.all
              go_wp2_with fail
              go_ret
              exact ⟨ret_int (Hst.out 12 (by omega) (by rw [evErr]; rw [if_neg (by simp), if_neg (by omega), if_neg (by omega), if_neg (by omega), if_pos (by omega)])).symm, hb⟩
          have es2 : decide (out - inn < len) = false := decide_eq_false s2
          refine name_world ?_
          intro wz hwn
          replace x1 := bx_eq hwn x1
          replace x4 := bx_eq hwn x4
          replace hb := b_eq hwn hb
          clear hwn q1 f1 l1 q4 f4 l4
          refine wp_region_grd 30 (fun _ => false) (fun q u w' => u = [.pointer (some ⟨wr.heap.size, 1, none⟩), .int .i64 2, .bool true, .bool true, .pointer (some ⟨wr.heap.size, 2, none⟩), .int .i64 len, .bool false, .bool false, .pointer (some ⟨wr.heap.size, 2, none⟩), .int .i64 len, .bool false, .bool false, .bool false, .pointer (some ⟨wr.heap.size, 2, none⟩), .int .i64 len, .agg #[.string reel, .int .i64 2, .int .i64 len, .int .i64 inn, .int .i64 out, .int .i64 pos], .int .i64 (out - inn), .bool false, .bool false, .bool false, .bool false, .bool true, .bool true, .bool true, undef, undef, undef, undef, .bool true, .bool true].getD q undef) (fun _ => false) (fun w' => Below wz.heap.size wz w') (by kernel_rfl) (by kernel_rfl) (fun _ _ _ _ _ h => h)
            (fun _ _ h e => e.trans (h.mono e.size)) (fun t u a' b' hb h => ?_) (Below.refl _ _).drew ?_ ?_ ?_
          · exact h
          · intro t op ht hlt hop
            clear hlt
            rcases (by omega : t = 0 ∨ t = 1 ∨ t = 2 ∨ t = 3 ∨ t = 4 ∨ t = 5 ∨ t = 6 ∨ t = 7 ∨ t = 8 ∨ t = 9 ∨ t = 10 ∨ t = 11 ∨ t = 12 ∨ t = 13 ∨ t = 14 ∨ t = 15 ∨ t = 16 ∨ t = 17 ∨ t = 18 ∨ t = 19 ∨ t = 20 ∨ t = 21 ∨ t = 22 ∨ t = 23 ∨ t = 24 ∨ t = 25 ∨ t = 26 ∨ t = 27 ∨ t = 28 ∨ t = 29) with rfl | rfl | rfl | rfl | rfl | rfl | rfl | rfl | rfl | rfl | rfl | rfl | rfl | rfl | rfl | rfl | rfl | rfl | rfl | rfl | rfl | rfl | rfl | rfl | rfl | rfl | rfl | rfl | rfl | rfl
            all_goals simp only [List.getElem?_cons_zero, List.getElem?_cons_succ, Option.some.injEq] at hop
            all_goals subst hop
            all_goals intro a wx hE hag hdep
            · refine grd_none rfl ?_
              have e0 := slot_eq (hag 6 rfl)
              exact rel_pure _ rfl rfl (by simp [go_sem, e0])
            · refine grd_none rfl ?_
              have e0 := slot_eq (hdep ⟨0, .data⟩ (by simp) rfl)
              have hq := (x4.keep hE).all.1
              exact rel_pure _ rfl rfl (by simp [go_sem, e0, hq])
            · refine grd_none rfl ?_
              have e0 := slot_eq (hdep ⟨1, .data⟩ (by simp) rfl)
              exact rel_pure _ rfl rfl (by simp [go_sem, e0])
            · refine grd_none rfl ?_
              have e0 := slot_eq (hdep ⟨2, .data⟩ (by simp) rfl)
              exact rel_pure _ rfl rfl (by simp [go_sem, e0])
            · refine grd_yes (j := 3) (b := true) rfl (hdep ⟨3, .guard⟩ (by simp) rfl) ?_
              have e0 := slot_eq (hag 6 rfl)
              exact rel_pure _ rfl rfl (by simp [go_sem, e0])
            · refine grd_yes (j := 3) (b := true) rfl (hdep ⟨3, .guard⟩ (by simp) rfl) ?_
              have e0 := slot_eq (hdep ⟨4, .data⟩ (by simp) rfl)
              have hq := (x4.keep hE).all.1
              exact rel_pure _ rfl rfl (by simp [go_sem, e0, hq])
            · refine grd_yes (j := 3) (b := true) rfl (hdep ⟨3, .guard⟩ (by simp) rfl) ?_
              have e0 := slot_eq (hdep ⟨5, .data⟩ (by simp) rfl)
              exact rel_pure _ rfl rfl (by simp [go_sem, e0, es1])
            · refine grd_yes (j := 3) (b := true) rfl (hdep ⟨3, .guard⟩ (by simp) rfl) ?_
              have e0 := slot_eq (hdep ⟨6, .data⟩ (by simp) rfl)
              exact rel_pure _ rfl rfl (by simp [go_sem, e0])
            · refine grd_yes (j := 7) (b := false) rfl (hdep ⟨7, .guard⟩ (by simp) rfl) ?_
              have e0 := slot_eq (hag 6 rfl)
              exact rel_pure _ rfl rfl (by simp [go_sem, e0])
            · refine grd_yes (j := 7) (b := false) rfl (hdep ⟨7, .guard⟩ (by simp) rfl) ?_
              have e0 := slot_eq (hdep ⟨8, .data⟩ (by simp) rfl)
              have hq := (x4.keep hE).all.1
              exact rel_pure _ rfl rfl (by simp [go_sem, e0, hq])
            · refine grd_yes (j := 7) (b := false) rfl (hdep ⟨7, .guard⟩ (by simp) rfl) ?_
              have e0 := slot_eq (hdep ⟨9, .data⟩ (by simp) rfl)
              exact rel_pure _ rfl rfl (by simp [go_sem, e0, es3])
            · refine grd_yes (j := 3) (b := true) rfl (hdep ⟨3, .guard⟩ (by simp) rfl) ?_
              have e0 := slot_eq (hdep ⟨7, .data⟩ (by simp) rfl)
              have e1 := slot_eq (hdep ⟨10, .data⟩ (by simp) rfl)
              exact rel_pure _ rfl rfl (by simp [go_sem, e0, e1])
            · refine grd_yes (j := 3) (b := true) rfl (hdep ⟨3, .guard⟩ (by simp) rfl) ?_
              have e0 := slot_eq (hdep ⟨11, .data⟩ (by simp) rfl)
              exact rel_pure _ rfl rfl (by simp [go_sem, e0])
            · refine grd_yes (j := 12) (b := false) rfl (hdep ⟨12, .guard⟩ (by simp) rfl) ?_
              have e0 := slot_eq (hag 6 rfl)
              exact rel_pure _ rfl rfl (by simp [go_sem, e0])
            · refine grd_yes (j := 12) (b := false) rfl (hdep ⟨12, .guard⟩ (by simp) rfl) ?_
              have e0 := slot_eq (hdep ⟨13, .data⟩ (by simp) rfl)
              have hq := (x4.keep hE).all.1
              exact rel_pure _ rfl rfl (by simp [go_sem, e0, hq])
            · refine grd_yes (j := 12) (b := false) rfl (hdep ⟨12, .guard⟩ (by simp) rfl) ?_
              have e0 := slot_eq (hag 6 rfl)
              have hq := (x4.keep hE).all.1
              exact rel_pure _ rfl rfl (by simp [go_sem, e0, hq])
            · refine grd_yes (j := 12) (b := false) rfl (hdep ⟨12, .guard⟩ (by simp) rfl) ?_
              have e0 := slot_eq (hdep ⟨15, .data⟩ (by simp) rfl)
              refine rel_call (f := 15) (args := #[.agg #[.string reel, .int .i64 2, .int .i64 len, .int .i64 inn, .int .i64 out, .int .i64 pos]]) (run_go_call Tryz.func15 (by kernel_rfl) (by kernel_rfl) _ _ _ _ _ _ _ _ _ _ (by simp [Act.eval, e0])) rfl ?_
              refine (conform_long reel 2 len inn out pos wx (by omega) (by omega) (by omega)).mono ?_
              rintro e w' ⟨rfl, hbx⟩
              exact ⟨_, rfl, rfl, hbx⟩
            · refine grd_yes (j := 12) (b := false) rfl (hdep ⟨12, .guard⟩ (by simp) rfl) ?_
              have e0 := slot_eq (hdep ⟨14, .data⟩ (by simp) rfl)
              have e1 := slot_eq (hdep ⟨16, .data⟩ (by simp) rfl)
              exact rel_pure _ rfl rfl (by simp [go_sem, e0, e1, es2])
            · refine grd_yes (j := 3) (b := true) rfl (hdep ⟨3, .guard⟩ (by simp) rfl) ?_
              have e0 := slot_eq (hdep ⟨12, .data⟩ (by simp) rfl)
              have e1 := slot_eq (hdep ⟨17, .data⟩ (by simp) rfl)
              exact rel_pure _ rfl rfl (by simp [go_sem, e0, e1])
            · refine grd_yes (j := 3) (b := true) rfl (hdep ⟨3, .guard⟩ (by simp) rfl) ?_
              have e0 := slot_eq (hdep ⟨18, .data⟩ (by simp) rfl)
              exact rel_pure _ rfl rfl (by simp [go_sem, e0])
            · refine grd_yes (j := 19) (b := false) rfl (hdep ⟨19, .guard⟩ (by simp) rfl) ?_
              have e0 := slot_eq (hag 4 rfl)
              exact rel_pure _ rfl rfl (by simp [go_sem, e0])
            · refine grd_yes (j := 19) (b := false) rfl (hdep ⟨19, .guard⟩ (by simp) rfl) ?_
              have e0 := slot_eq (hdep ⟨20, .data⟩ (by simp) rfl)
              exact rel_pure _ rfl rfl (by simp [go_sem, e0])
            · refine grd_yes (j := 3) (b := true) rfl (hdep ⟨3, .guard⟩ (by simp) rfl) ?_
              have e0 := slot_eq (hdep ⟨19, .data⟩ (by simp) rfl)
              have e1 := slot_eq (hdep ⟨21, .data⟩ (by simp) rfl)
              exact rel_pure _ rfl rfl (by simp [go_sem, e0, e1])
            · refine grd_yes (j := 3) (b := true) rfl (hdep ⟨3, .guard⟩ (by simp) rfl) ?_
              have e0 := slot_eq (hdep ⟨22, .data⟩ (by simp) rfl)
              exact rel_pure _ rfl rfl (by simp [go_sem, e0])
            · exact grd_no (j := 23) (b := false) rfl (hdep ⟨23, .guard⟩ (by simp) rfl) rfl rfl
            · exact grd_no (j := 23) (b := false) rfl (hdep ⟨23, .guard⟩ (by simp) rfl) rfl rfl
            · exact grd_no (j := 23) (b := false) rfl (hdep ⟨23, .guard⟩ (by simp) rfl) rfl rfl
            · exact grd_no (j := 23) (b := false) rfl (hdep ⟨23, .guard⟩ (by simp) rfl) rfl rfl
            · refine grd_yes (j := 3) (b := true) rfl (hdep ⟨3, .guard⟩ (by simp) rfl) ?_
              have e0 := slot_eq (hdep ⟨23, .data⟩ (by simp) rfl)
              exact rel_pure _ rfl rfl (by simp [go_sem, e0])
            · refine grd_none rfl ?_
              have e0 := slot_eq (hdep ⟨3, .data⟩ (by simp) rfl)
              have e1 := slot_eq (hdep ⟨28, .data⟩ (by simp) rfl)
              exact rel_pure _ rfl rfl (by simp [go_sem, e0, e1])
          · intro t op ht hlt; cases hlt
          · intro vs wy hE hvs _
            have k29 : vs 29 = .bool true := hvs 29 (by omega)
            simp only [List.drop_succ_cons, List.drop_zero, putAll, dstAt, List.getElem?_toArray, List.getElem?_cons_zero, List.getElem?_cons_succ, Option.bind_some, Act.put, List.setIfInBounds_toArray, List.set_cons_zero, List.set_cons_succ, k29]
            clear hvs k29
            replace x1 := x1.keep hE
            replace x4 := x4.keep hE
            replace hb := hb.trans (hE.mono hb.size)
            clear hE
            obtain ⟨q1, f1, l1⟩ := x1.all
            obtain ⟨q4, f4, l4⟩ := x4.all
            go_wp2_with fail
            go_ret
            exact ⟨ret_int (Hst.out 12 (by omega) (by rw [evErr]; rw [if_neg (by simp), if_neg (by omega), if_neg (by omega), if_neg (by omega), if_pos (by omega)])).symm, hb⟩
      · obtain rfl : bb = true := by simpa using (hbb.trans (by simp; omega) : bb = true)
        clear hbb hbf
        go_wp2_with fail
        refine (conform_isName _ _).mono ?_
        rintro e w5 ⟨rfl, hb5⟩
        replace x1 := x1.keep hb5
        replace x4 := x4.keep hb5
        replace hb := bcall hb hb5
        clear hb5 q1 f1 l1 q4 f4 l4
        obtain ⟨q1, f1, l1⟩ := x1.all
        obtain ⟨q4, f4, l4⟩ := x4.all
        generalize nameB reel = nm at Hev0 ⊢
        have Hst := Lib.hid (fun e he (h : evErr nm kind len inn out pos bf k = e) => Hst0.out e he (Hev0.out.trans h))
        have Hnext := Lib.hid (fun (h : evErr nm kind len inn out pos bf k = 0) => Hnx0.out (Hev0.out.trans h))
        clear Hst0 Hnx0 Hev0 hz0
        cases nm
        · go_wp2_with fail
          go_ret
          exact ⟨ret_int (Hst.out 6 (by omega) (by rw [evErr, if_pos rfl])).symm, hb⟩
        by_cases k1 : kind = 1 ∨ kind = 2
        rotate_left
        · have d1 : (kind != 1) = true := by simp; omega
          have d2 : (kind != 2) = true := by simp; omega
          go_wp2_with fail
          go_ret
          exact ⟨ret_int (Hst.out 1 (by omega) (by rw [evErr]; rw [if_neg (by simp), if_pos (by omega)])).symm, hb⟩
        rcases k1 with rfl | rfl
        · by_cases r1 : inn < 0
          · have er1 : decide (inn < 0) = true := decide_eq_true r1
            go_wp2_with fail
            go_ret
            exact ⟨ret_int (Hst.out 3 (by omega) (by rw [evErr]; rw [if_neg (by simp), if_neg (by omega), if_pos (by omega)])).symm, hb⟩
          have er1 : decide (inn < 0) = false := decide_eq_false r1
          by_cases r2 : out ≤ inn
          · have er2 : decide (out ≤ inn) = true := decide_eq_true r2
            go_wp2_with fail
            go_ret
            exact ⟨ret_int (Hst.out 3 (by omega) (by rw [evErr]; rw [if_neg (by simp), if_neg (by omega), if_pos (by omega)])).symm, hb⟩
          have er2 : decide (out ≤ inn) = false := decide_eq_false r2
          by_cases r3 : 16777216 < out
          · have er3 : decide (16777216 < out) = true := decide_eq_true r3
            go_wp2_with fail
            go_ret
            exact ⟨ret_int (Hst.out 3 (by omega) (by rw [evErr]; rw [if_neg (by simp), if_neg (by omega), if_pos (by omega)])).symm, hb⟩
          have er3 : decide (16777216 < out) = false := decide_eq_false r3
          by_cases r5 : pos < 0
          · have er5 : decide (pos < 0) = true := decide_eq_true r5
            go_wp2_with fail
            go_ret
            exact ⟨ret_int (Hst.out 3 (by omega) (by rw [evErr]; rw [if_neg (by simp), if_neg (by omega), if_pos (by omega)])).symm, hb⟩
          have er5 : decide (pos < 0) = false := decide_eq_false r5
          by_cases r4 : 16777216 < pos
          · have er4 : decide (16777216 < pos) = true := decide_eq_true r4
            go_wp2_with fail
            go_ret
            exact ⟨ret_int (Hst.out 3 (by omega) (by rw [evErr]; rw [if_neg (by simp), if_neg (by omega), if_pos (by omega)])).symm, hb⟩
          have er4 : decide (16777216 < pos) = false := decide_eq_false r4
          by_cases r6 : pos < bf
          · have er6 : decide (pos < bf) = true := decide_eq_true r6
            go_wp2_with fail
            go_ret
            exact ⟨ret_int (Hst.out 8 (by omega) (by rw [evErr]; rw [if_neg (by simp), if_neg (by omega), if_neg (by omega), if_pos (by omega)])).symm, hb⟩
          have er6 : decide (pos < bf) = false := decide_eq_false r6
          by_cases s1 : len = 0
          rotate_left
          · have es1 : (len != 0) = true := by simpa using s1
            go_wp2_with fail
            go_ret
            exact ⟨ret_int (Hst.out 12 (by omega) (by rw [evErr]; rw [if_neg (by simp), if_neg (by omega), if_neg (by omega), if_neg (by omega), if_pos (by omega)])).symm, hb⟩
          have es1 : (len != 0) = false := by simpa using s1
          go_wp2_with fail
          go_quiet (fail)
          go_wp2_with fail
          refine name_world ?_
          intro wz hwn
          replace x1 := bx_eqd hwn x1
          replace x4 := bx_eqd hwn x4
          replace hb := b_eqd hwn hb
          clear hwn q1 f1 l1 q4 f4 l4
          refine wp_region_grd 5 (fun _ => false) (fun q u w' => u = [.pointer (some ⟨wr.heap.size, 5, none⟩), .int .i64 pos, .agg #[.string reel, .int .i64 1, .int .i64 len, .int .i64 inn, .int .i64 out, .int .i64 pos], .int .i64 (out - inn), .int .i64 (pos + (out - inn))].getD q undef) (fun _ => false) (fun w' => Below wz.heap.size wz w') (by kernel_rfl) (by kernel_rfl) (fun _ _ _ _ _ h => h)
            (fun _ _ h e => e.trans (h.mono e.size)) (fun t u a' b' hb h => ?_) (Below.refl _ _).drew ?_ ?_ ?_
          · exact h
          · intro t op ht hlt hop
            clear hlt
            rcases (by omega : t = 0 ∨ t = 1 ∨ t = 2 ∨ t = 3 ∨ t = 4) with rfl | rfl | rfl | rfl | rfl
            all_goals simp only [List.getElem?_cons_zero, List.getElem?_cons_succ, Option.some.injEq] at hop
            all_goals subst hop
            all_goals intro a wx hE hag hdep
            · refine grd_none rfl ?_
              have e0 := slot_eq (hag 6 rfl)
              exact rel_pure _ rfl rfl (by simp [go_sem, e0])
            · refine grd_none rfl ?_
              have e0 := slot_eq (hdep ⟨0, .data⟩ (by simp) rfl)
              have hq := (x4.keep hE).all.1
              exact rel_pure _ rfl rfl (by simp [go_sem, e0, hq])
            · refine grd_none rfl ?_
              have e0 := slot_eq (hag 6 rfl)
              have hq := (x4.keep hE).all.1
              exact rel_pure _ rfl rfl (by simp [go_sem, e0, hq])
            · refine grd_none rfl ?_
              have e0 := slot_eq (hdep ⟨2, .data⟩ (by simp) rfl)
              refine rel_call (f := 15) (args := #[.agg #[.string reel, .int .i64 1, .int .i64 len, .int .i64 inn, .int .i64 out, .int .i64 pos]]) (run_go_call Tryz.func15 (by kernel_rfl) (by kernel_rfl) _ _ _ _ _ _ _ _ _ _ (by simp [Act.eval, e0])) rfl ?_
              refine (conform_long reel 1 len inn out pos wx (by omega) (by omega) (by omega)).mono ?_
              rintro e w' ⟨rfl, hbx⟩
              exact ⟨_, rfl, rfl, hbx⟩
            · refine grd_none rfl ?_
              have e0 := slot_eq (hdep ⟨1, .data⟩ (by simp) rfl)
              have e1 := slot_eq (hdep ⟨3, .data⟩ (by simp) rfl)
              have hw : IntKind.i64.wrap (pos + (out - inn)) = pos + (out - inn) := IntWalk.i64_in _ (by omega)
              exact rel_pure _ rfl rfl (by simp [go_sem, e0, e1, hw])
          · intro t op ht hlt; cases hlt
          · intro vs wy hE hvs _
            have k4 : vs 4 = .int .i64 (pos + (out - inn)) := hvs 4 (by omega)
            simp only [List.drop_succ_cons, List.drop_zero, putAll, dstAt, List.getElem?_toArray, List.getElem?_cons_zero, List.getElem?_cons_succ, Option.bind_some, Act.put, List.setIfInBounds_toArray, List.set_cons_zero, List.set_cons_succ, k4]
            clear hvs k4
            replace x1 := x1.keep hE
            replace hb := hb.trans (hE.mono hb.size)
            clear hE x4
            obtain ⟨q1, f1, l1⟩ := x1.all
            go_wp2_with fail
            go_roundw
            case rel => exact ⟨k + 1, true, pos + (out - inn), by omega, rfl, rfl, by go_num, by simp, Hbf, Hnext.out (by rw [evErr]; rw [if_neg (by simp), if_neg (by omega), if_neg (by omega), if_neg (by omega), if_neg (by omega)]), hb, x1⟩
            case measure => simp [intOf]; omega
        · by_cases r1 : inn < 0
          · have er1 : decide (inn < 0) = true := decide_eq_true r1
            go_wp2_with fail
            go_ret
            exact ⟨ret_int (Hst.out 3 (by omega) (by rw [evErr]; rw [if_neg (by simp), if_neg (by omega), if_pos (by omega)])).symm, hb⟩
          have er1 : decide (inn < 0) = false := decide_eq_false r1
          by_cases r2 : out ≤ inn
          · have er2 : decide (out ≤ inn) = true := decide_eq_true r2
            go_wp2_with fail
            go_ret
            exact ⟨ret_int (Hst.out 3 (by omega) (by rw [evErr]; rw [if_neg (by simp), if_neg (by omega), if_pos (by omega)])).symm, hb⟩
          have er2 : decide (out ≤ inn) = false := decide_eq_false r2
          by_cases r3 : 16777216 < out
          · have er3 : decide (16777216 < out) = true := decide_eq_true r3
            go_wp2_with fail
            go_ret
            exact ⟨ret_int (Hst.out 3 (by omega) (by rw [evErr]; rw [if_neg (by simp), if_neg (by omega), if_pos (by omega)])).symm, hb⟩
          have er3 : decide (16777216 < out) = false := decide_eq_false r3
          by_cases r5 : pos < 0
          · have er5 : decide (pos < 0) = true := decide_eq_true r5
            go_wp2_with fail
            go_ret
            exact ⟨ret_int (Hst.out 3 (by omega) (by rw [evErr]; rw [if_neg (by simp), if_neg (by omega), if_pos (by omega)])).symm, hb⟩
          have er5 : decide (pos < 0) = false := decide_eq_false r5
          by_cases r4 : 16777216 < pos
          · have er4 : decide (16777216 < pos) = true := decide_eq_true r4
            go_wp2_with fail
            go_ret
            exact ⟨ret_int (Hst.out 3 (by omega) (by rw [evErr]; rw [if_neg (by simp), if_neg (by omega), if_pos (by omega)])).symm, hb⟩
          have er4 : decide (16777216 < pos) = false := decide_eq_false r4
          by_cases r6 : pos < bf
          · have er6 : decide (pos < bf) = true := decide_eq_true r6
            go_wp2_with fail
            go_ret
            exact ⟨ret_int (Hst.out 8 (by omega) (by rw [evErr]; rw [if_neg (by simp), if_neg (by omega), if_neg (by omega), if_pos (by omega)])).symm, hb⟩
          have er6 : decide (pos < bf) = false := decide_eq_false r6
          by_cases s1 : len < 1
          · have es1 : decide (len < 1) = true := decide_eq_true s1
            go_wp2_with fail
            go_quiet (fail)
            go_wp2_with fail
            go_ret
            exact ⟨ret_int (Hst.out 12 (by omega) (by rw [evErr]; rw [if_neg (by simp), if_neg (by omega), if_neg (by omega), if_neg (by omega), if_pos (by omega)])).symm, below_drewN hb _⟩
          have es1 : decide (len < 1) = false := decide_eq_false s1
          by_cases s3 : 250 < len
          · have es3 : decide (250 < len) = true := decide_eq_true s3
            go_wp2_with fail
            go_quiet (fail)
            go_wp2_with fail
            go_ret
            exact ⟨ret_int (Hst.out 12 (by omega) (by rw [evErr]; rw [if_neg (by simp), if_neg (by omega), if_neg (by omega), if_neg (by omega), if_pos (by omega)])).symm, below_drewN hb _⟩
          have es3 : decide (250 < len) = false := decide_eq_false s3
          go_wp2_with fail
          by_cases s2 : out - inn < len
          · have es2 : decide (out - inn < len) = true := decide_eq_true s2
            refine name_world ?_
            intro wz hwn
            replace x1 := bx_eq hwn x1
            replace x4 := bx_eq hwn x4
            replace hb := b_eq hwn hb
            clear hwn q1 f1 l1 q4 f4 l4
            refine wp_region_grd 30 (fun _ => false) (fun q u w' => u = [.pointer (some ⟨wr.heap.size, 1, none⟩), .int .i64 2, .bool true, .bool true, .pointer (some ⟨wr.heap.size, 2, none⟩), .int .i64 len, .bool false, .bool false, .pointer (some ⟨wr.heap.size, 2, none⟩), .int .i64 len, .bool false, .bool false, .bool false, .pointer (some ⟨wr.heap.size, 2, none⟩), .int .i64 len, .agg #[.string reel, .int .i64 2, .int .i64 len, .int .i64 inn, .int .i64 out, .int .i64 pos], .int .i64 (out - inn), .bool true, .bool true, .bool true, undef, undef, .bool true, .bool true, undef, undef, undef, undef, .bool true, .bool true].getD q undef) (fun _ => false) (fun w' => Below wz.heap.size wz w') (by kernel_rfl) (by kernel_rfl) (fun _ _ _ _ _ h => h)
              (fun _ _ h e => e.trans (h.mono e.size)) (fun t u a' b' hb h => ?_) (Below.refl _ _).drew ?_ ?_ ?_
            · exact h
            · intro t op ht hlt hop
              clear hlt
              rcases (by omega : t = 0 ∨ t = 1 ∨ t = 2 ∨ t = 3 ∨ t = 4 ∨ t = 5 ∨ t = 6 ∨ t = 7 ∨ t = 8 ∨ t = 9 ∨ t = 10 ∨ t = 11 ∨ t = 12 ∨ t = 13 ∨ t = 14 ∨ t = 15 ∨ t = 16 ∨ t = 17 ∨ t = 18 ∨ t = 19 ∨ t = 20 ∨ t = 21 ∨ t = 22 ∨ t = 23 ∨ t = 24 ∨ t = 25 ∨ t = 26 ∨ t = 27 ∨ t = 28 ∨ t = 29) with rfl | rfl | rfl | rfl | rfl | rfl | rfl | rfl | rfl | rfl | rfl | rfl | rfl | rfl | rfl | rfl | rfl | rfl | rfl | rfl | rfl | rfl | rfl | rfl | rfl | rfl | rfl | rfl | rfl | rfl
              all_goals simp only [List.getElem?_cons_zero, List.getElem?_cons_succ, Option.some.injEq] at hop
              all_goals subst hop
              all_goals intro a wx hE hag hdep
              · refine grd_none rfl ?_
                have e0 := slot_eq (hag 6 rfl)
                exact rel_pure _ rfl rfl (by simp [go_sem, e0])
              · refine grd_none rfl ?_
                have e0 := slot_eq (hdep ⟨0, .data⟩ (by simp) rfl)
                have hq := (x4.keep hE).all.1
                exact rel_pure _ rfl rfl (by simp [go_sem, e0, hq])
              · refine grd_none rfl ?_
                have e0 := slot_eq (hdep ⟨1, .data⟩ (by simp) rfl)
                exact rel_pure _ rfl rfl (by simp [go_sem, e0])
              · refine grd_none rfl ?_
                have e0 := slot_eq (hdep ⟨2, .data⟩ (by simp) rfl)
                exact rel_pure _ rfl rfl (by simp [go_sem, e0])
              · refine grd_yes (j := 3) (b := true) rfl (hdep ⟨3, .guard⟩ (by simp) rfl) ?_
                have e0 := slot_eq (hag 6 rfl)
                exact rel_pure _ rfl rfl (by simp [go_sem, e0])
              · refine grd_yes (j := 3) (b := true) rfl (hdep ⟨3, .guard⟩ (by simp) rfl) ?_
                have e0 := slot_eq (hdep ⟨4, .data⟩ (by simp) rfl)
                have hq := (x4.keep hE).all.1
                exact rel_pure _ rfl rfl (by simp [go_sem, e0, hq])
              · refine grd_yes (j := 3) (b := true) rfl (hdep ⟨3, .guard⟩ (by simp) rfl) ?_
                have e0 := slot_eq (hdep ⟨5, .data⟩ (by simp) rfl)
                exact rel_pure _ rfl rfl (by simp [go_sem, e0, es1])
              · refine grd_yes (j := 3) (b := true) rfl (hdep ⟨3, .guard⟩ (by simp) rfl) ?_
                have e0 := slot_eq (hdep ⟨6, .data⟩ (by simp) rfl)
                exact rel_pure _ rfl rfl (by simp [go_sem, e0])
              · refine grd_yes (j := 7) (b := false) rfl (hdep ⟨7, .guard⟩ (by simp) rfl) ?_
                have e0 := slot_eq (hag 6 rfl)
                exact rel_pure _ rfl rfl (by simp [go_sem, e0])
              · refine grd_yes (j := 7) (b := false) rfl (hdep ⟨7, .guard⟩ (by simp) rfl) ?_
                have e0 := slot_eq (hdep ⟨8, .data⟩ (by simp) rfl)
                have hq := (x4.keep hE).all.1
                exact rel_pure _ rfl rfl (by simp [go_sem, e0, hq])
              · refine grd_yes (j := 7) (b := false) rfl (hdep ⟨7, .guard⟩ (by simp) rfl) ?_
                have e0 := slot_eq (hdep ⟨9, .data⟩ (by simp) rfl)
                exact rel_pure _ rfl rfl (by simp [go_sem, e0, es3])
              · refine grd_yes (j := 3) (b := true) rfl (hdep ⟨3, .guard⟩ (by simp) rfl) ?_
                have e0 := slot_eq (hdep ⟨7, .data⟩ (by simp) rfl)
                have e1 := slot_eq (hdep ⟨10, .data⟩ (by simp) rfl)
                exact rel_pure _ rfl rfl (by simp [go_sem, e0, e1])
              · refine grd_yes (j := 3) (b := true) rfl (hdep ⟨3, .guard⟩ (by simp) rfl) ?_
                have e0 := slot_eq (hdep ⟨11, .data⟩ (by simp) rfl)
                exact rel_pure _ rfl rfl (by simp [go_sem, e0])
              · refine grd_yes (j := 12) (b := false) rfl (hdep ⟨12, .guard⟩ (by simp) rfl) ?_
                have e0 := slot_eq (hag 6 rfl)
                exact rel_pure _ rfl rfl (by simp [go_sem, e0])
              · refine grd_yes (j := 12) (b := false) rfl (hdep ⟨12, .guard⟩ (by simp) rfl) ?_
                have e0 := slot_eq (hdep ⟨13, .data⟩ (by simp) rfl)
                have hq := (x4.keep hE).all.1
                exact rel_pure _ rfl rfl (by simp [go_sem, e0, hq])
              · refine grd_yes (j := 12) (b := false) rfl (hdep ⟨12, .guard⟩ (by simp) rfl) ?_
                have e0 := slot_eq (hag 6 rfl)
                have hq := (x4.keep hE).all.1
                exact rel_pure _ rfl rfl (by simp [go_sem, e0, hq])
              · refine grd_yes (j := 12) (b := false) rfl (hdep ⟨12, .guard⟩ (by simp) rfl) ?_
                have e0 := slot_eq (hdep ⟨15, .data⟩ (by simp) rfl)
                refine rel_call (f := 15) (args := #[.agg #[.string reel, .int .i64 2, .int .i64 len, .int .i64 inn, .int .i64 out, .int .i64 pos]]) (run_go_call Tryz.func15 (by kernel_rfl) (by kernel_rfl) _ _ _ _ _ _ _ _ _ _ (by simp [Act.eval, e0])) rfl ?_
                refine (conform_long reel 2 len inn out pos wx (by omega) (by omega) (by omega)).mono ?_
                rintro e w' ⟨rfl, hbx⟩
                exact ⟨_, rfl, rfl, hbx⟩
              · refine grd_yes (j := 12) (b := false) rfl (hdep ⟨12, .guard⟩ (by simp) rfl) ?_
                have e0 := slot_eq (hdep ⟨14, .data⟩ (by simp) rfl)
                have e1 := slot_eq (hdep ⟨16, .data⟩ (by simp) rfl)
                exact rel_pure _ rfl rfl (by simp [go_sem, e0, e1, es2])
              · refine grd_yes (j := 3) (b := true) rfl (hdep ⟨3, .guard⟩ (by simp) rfl) ?_
                have e0 := slot_eq (hdep ⟨12, .data⟩ (by simp) rfl)
                have e1 := slot_eq (hdep ⟨17, .data⟩ (by simp) rfl)
                exact rel_pure _ rfl rfl (by simp [go_sem, e0, e1])
              · refine grd_yes (j := 3) (b := true) rfl (hdep ⟨3, .guard⟩ (by simp) rfl) ?_
                have e0 := slot_eq (hdep ⟨18, .data⟩ (by simp) rfl)
                exact rel_pure _ rfl rfl (by simp [go_sem, e0])
              · exact grd_no (j := 19) (b := false) rfl (hdep ⟨19, .guard⟩ (by simp) rfl) rfl rfl
              · exact grd_no (j := 19) (b := false) rfl (hdep ⟨19, .guard⟩ (by simp) rfl) rfl rfl
              · refine grd_yes (j := 3) (b := true) rfl (hdep ⟨3, .guard⟩ (by simp) rfl) ?_
                have e0 := slot_eq (hdep ⟨19, .data⟩ (by simp) rfl)
                exact rel_pure _ rfl rfl (by simp [go_sem, e0])
              · refine grd_yes (j := 3) (b := true) rfl (hdep ⟨3, .guard⟩ (by simp) rfl) ?_
                have e0 := slot_eq (hdep ⟨22, .data⟩ (by simp) rfl)
                exact rel_pure _ rfl rfl (by simp [go_sem, e0])
              · exact grd_no (j := 23) (b := false) rfl (hdep ⟨23, .guard⟩ (by simp) rfl) rfl rfl
              · exact grd_no (j := 23) (b := false) rfl (hdep ⟨23, .guard⟩ (by simp) rfl) rfl rfl
              · exact grd_no (j := 23) (b := false) rfl (hdep ⟨23, .guard⟩ (by simp) rfl) rfl rfl
              · exact grd_no (j := 23) (b := false) rfl (hdep ⟨23, .guard⟩ (by simp) rfl) rfl rfl
              · refine grd_yes (j := 3) (b := true) rfl (hdep ⟨3, .guard⟩ (by simp) rfl) ?_
                have e0 := slot_eq (hdep ⟨23, .data⟩ (by simp) rfl)
                exact rel_pure _ rfl rfl (by simp [go_sem, e0])
              · refine grd_none rfl ?_
                have e0 := slot_eq (hdep ⟨3, .data⟩ (by simp) rfl)
                have e1 := slot_eq (hdep ⟨28, .data⟩ (by simp) rfl)
                exact rel_pure _ rfl rfl (by simp [go_sem, e0, e1])
            · intro t op ht hlt; cases hlt
            · intro vs wy hE hvs _
              have k29 : vs 29 = .bool true := hvs 29 (by omega)
              simp only [List.drop_succ_cons, List.drop_zero, putAll, dstAt, List.getElem?_toArray, List.getElem?_cons_zero, List.getElem?_cons_succ, Option.bind_some, Act.put, List.setIfInBounds_toArray, List.set_cons_zero, List.set_cons_succ, k29]
              clear hvs k29
              replace x1 := x1.keep hE
              replace x4 := x4.keep hE
              replace hb := hb.trans (hE.mono hb.size)
              clear hE
              obtain ⟨q1, f1, l1⟩ := x1.all
              obtain ⟨q4, f4, l4⟩ := x4.all
              go_wp2_with fail
              go_ret
              exact ⟨ret_int (Hst.out 12 (by omega) (by rw [evErr]; rw [if_neg (by simp), if_neg (by omega), if_neg (by omega), if_neg (by omega), if_pos (by omega)])).symm, hb⟩
          have es2 : decide (out - inn < len) = false := decide_eq_false s2
          by_cases s4 : pos = bf
          rotate_left
          · have es4 : (pos != bf) = true := by simpa using s4
            refine name_world ?_
            intro wz hwn
            replace x1 := bx_eq hwn x1
            replace x4 := bx_eq hwn x4
            replace hb := b_eq hwn hb
            clear hwn q1 f1 l1 q4 f4 l4
            refine wp_region_grd 30 (fun _ => false) (fun q u w' => u = [.pointer (some ⟨wr.heap.size, 1, none⟩), .int .i64 2, .bool true, .bool true, .pointer (some ⟨wr.heap.size, 2, none⟩), .int .i64 len, .bool false, .bool false, .pointer (some ⟨wr.heap.size, 2, none⟩), .int .i64 len, .bool false, .bool false, .bool false, .pointer (some ⟨wr.heap.size, 2, none⟩), .int .i64 len, .agg #[.string reel, .int .i64 2, .int .i64 len, .int .i64 inn, .int .i64 out, .int .i64 pos], .int .i64 (out - inn), .bool false, .bool false, .bool false, .bool true, .bool false, .bool false, .bool false, .pointer (some ⟨wr.heap.size, 5, none⟩), .int .i64 pos, .int .i64 bf, .bool true, .bool true, .bool true].getD q undef) (fun _ => false) (fun w' => Below wz.heap.size wz w') (by kernel_rfl) (by kernel_rfl) (fun _ _ _ _ _ h => h)
              (fun _ _ h e => e.trans (h.mono e.size)) (fun t u a' b' hb h => ?_) (Below.refl _ _).drew ?_ ?_ ?_
            · exact h
            · intro t op ht hlt hop
              clear hlt
              rcases (by omega : t = 0 ∨ t = 1 ∨ t = 2 ∨ t = 3 ∨ t = 4 ∨ t = 5 ∨ t = 6 ∨ t = 7 ∨ t = 8 ∨ t = 9 ∨ t = 10 ∨ t = 11 ∨ t = 12 ∨ t = 13 ∨ t = 14 ∨ t = 15 ∨ t = 16 ∨ t = 17 ∨ t = 18 ∨ t = 19 ∨ t = 20 ∨ t = 21 ∨ t = 22 ∨ t = 23 ∨ t = 24 ∨ t = 25 ∨ t = 26 ∨ t = 27 ∨ t = 28 ∨ t = 29) with rfl | rfl | rfl | rfl | rfl | rfl | rfl | rfl | rfl | rfl | rfl | rfl | rfl | rfl | rfl | rfl | rfl | rfl | rfl | rfl | rfl | rfl | rfl | rfl | rfl | rfl | rfl | rfl | rfl | rfl
              all_goals simp only [List.getElem?_cons_zero, List.getElem?_cons_succ, Option.some.injEq] at hop
              all_goals subst hop
              all_goals intro a wx hE hag hdep
              · refine grd_none rfl ?_
                have e0 := slot_eq (hag 6 rfl)
                exact rel_pure _ rfl rfl (by simp [go_sem, e0])
              · refine grd_none rfl ?_
                have e0 := slot_eq (hdep ⟨0, .data⟩ (by simp) rfl)
                have hq := (x4.keep hE).all.1
                exact rel_pure _ rfl rfl (by simp [go_sem, e0, hq])
              · refine grd_none rfl ?_
                have e0 := slot_eq (hdep ⟨1, .data⟩ (by simp) rfl)
                exact rel_pure _ rfl rfl (by simp [go_sem, e0])
              · refine grd_none rfl ?_
                have e0 := slot_eq (hdep ⟨2, .data⟩ (by simp) rfl)
                exact rel_pure _ rfl rfl (by simp [go_sem, e0])
              · refine grd_yes (j := 3) (b := true) rfl (hdep ⟨3, .guard⟩ (by simp) rfl) ?_
                have e0 := slot_eq (hag 6 rfl)
                exact rel_pure _ rfl rfl (by simp [go_sem, e0])
              · refine grd_yes (j := 3) (b := true) rfl (hdep ⟨3, .guard⟩ (by simp) rfl) ?_
                have e0 := slot_eq (hdep ⟨4, .data⟩ (by simp) rfl)
                have hq := (x4.keep hE).all.1
                exact rel_pure _ rfl rfl (by simp [go_sem, e0, hq])
              · refine grd_yes (j := 3) (b := true) rfl (hdep ⟨3, .guard⟩ (by simp) rfl) ?_
                have e0 := slot_eq (hdep ⟨5, .data⟩ (by simp) rfl)
                exact rel_pure _ rfl rfl (by simp [go_sem, e0, es1])
              · refine grd_yes (j := 3) (b := true) rfl (hdep ⟨3, .guard⟩ (by simp) rfl) ?_
                have e0 := slot_eq (hdep ⟨6, .data⟩ (by simp) rfl)
                exact rel_pure _ rfl rfl (by simp [go_sem, e0])
              · refine grd_yes (j := 7) (b := false) rfl (hdep ⟨7, .guard⟩ (by simp) rfl) ?_
                have e0 := slot_eq (hag 6 rfl)
                exact rel_pure _ rfl rfl (by simp [go_sem, e0])
              · refine grd_yes (j := 7) (b := false) rfl (hdep ⟨7, .guard⟩ (by simp) rfl) ?_
                have e0 := slot_eq (hdep ⟨8, .data⟩ (by simp) rfl)
                have hq := (x4.keep hE).all.1
                exact rel_pure _ rfl rfl (by simp [go_sem, e0, hq])
              · refine grd_yes (j := 7) (b := false) rfl (hdep ⟨7, .guard⟩ (by simp) rfl) ?_
                have e0 := slot_eq (hdep ⟨9, .data⟩ (by simp) rfl)
                exact rel_pure _ rfl rfl (by simp [go_sem, e0, es3])
              · refine grd_yes (j := 3) (b := true) rfl (hdep ⟨3, .guard⟩ (by simp) rfl) ?_
                have e0 := slot_eq (hdep ⟨7, .data⟩ (by simp) rfl)
                have e1 := slot_eq (hdep ⟨10, .data⟩ (by simp) rfl)
                exact rel_pure _ rfl rfl (by simp [go_sem, e0, e1])
              · refine grd_yes (j := 3) (b := true) rfl (hdep ⟨3, .guard⟩ (by simp) rfl) ?_
                have e0 := slot_eq (hdep ⟨11, .data⟩ (by simp) rfl)
                exact rel_pure _ rfl rfl (by simp [go_sem, e0])
              · refine grd_yes (j := 12) (b := false) rfl (hdep ⟨12, .guard⟩ (by simp) rfl) ?_
                have e0 := slot_eq (hag 6 rfl)
                exact rel_pure _ rfl rfl (by simp [go_sem, e0])
              · refine grd_yes (j := 12) (b := false) rfl (hdep ⟨12, .guard⟩ (by simp) rfl) ?_
                have e0 := slot_eq (hdep ⟨13, .data⟩ (by simp) rfl)
                have hq := (x4.keep hE).all.1
                exact rel_pure _ rfl rfl (by simp [go_sem, e0, hq])
              · refine grd_yes (j := 12) (b := false) rfl (hdep ⟨12, .guard⟩ (by simp) rfl) ?_
                have e0 := slot_eq (hag 6 rfl)
                have hq := (x4.keep hE).all.1
                exact rel_pure _ rfl rfl (by simp [go_sem, e0, hq])
              · refine grd_yes (j := 12) (b := false) rfl (hdep ⟨12, .guard⟩ (by simp) rfl) ?_
                have e0 := slot_eq (hdep ⟨15, .data⟩ (by simp) rfl)
                refine rel_call (f := 15) (args := #[.agg #[.string reel, .int .i64 2, .int .i64 len, .int .i64 inn, .int .i64 out, .int .i64 pos]]) (run_go_call Tryz.func15 (by kernel_rfl) (by kernel_rfl) _ _ _ _ _ _ _ _ _ _ (by simp [Act.eval, e0])) rfl ?_
                refine (conform_long reel 2 len inn out pos wx (by omega) (by omega) (by omega)).mono ?_
                rintro e w' ⟨rfl, hbx⟩
                exact ⟨_, rfl, rfl, hbx⟩
              · refine grd_yes (j := 12) (b := false) rfl (hdep ⟨12, .guard⟩ (by simp) rfl) ?_
                have e0 := slot_eq (hdep ⟨14, .data⟩ (by simp) rfl)
                have e1 := slot_eq (hdep ⟨16, .data⟩ (by simp) rfl)
                exact rel_pure _ rfl rfl (by simp [go_sem, e0, e1, es2])
              · refine grd_yes (j := 3) (b := true) rfl (hdep ⟨3, .guard⟩ (by simp) rfl) ?_
                have e0 := slot_eq (hdep ⟨12, .data⟩ (by simp) rfl)
                have e1 := slot_eq (hdep ⟨17, .data⟩ (by simp) rfl)
                exact rel_pure _ rfl rfl (by simp [go_sem, e0, e1])
              · refine grd_yes (j := 3) (b := true) rfl (hdep ⟨3, .guard⟩ (by simp) rfl) ?_
                have e0 := slot_eq (hdep ⟨18, .data⟩ (by simp) rfl)
                exact rel_pure _ rfl rfl (by simp [go_sem, e0])
              · refine grd_yes (j := 19) (b := false) rfl (hdep ⟨19, .guard⟩ (by simp) rfl) ?_
                have e0 := slot_eq (hag 4 rfl)
                exact rel_pure _ rfl rfl (by simp [go_sem, e0])
              · refine grd_yes (j := 19) (b := false) rfl (hdep ⟨19, .guard⟩ (by simp) rfl) ?_
                have e0 := slot_eq (hdep ⟨20, .data⟩ (by simp) rfl)
                exact rel_pure _ rfl rfl (by simp [go_sem, e0])
              · refine grd_yes (j := 3) (b := true) rfl (hdep ⟨3, .guard⟩ (by simp) rfl) ?_
                have e0 := slot_eq (hdep ⟨19, .data⟩ (by simp) rfl)
                have e1 := slot_eq (hdep ⟨21, .data⟩ (by simp) rfl)
                exact rel_pure _ rfl rfl (by simp [go_sem, e0, e1])
              · refine grd_yes (j := 3) (b := true) rfl (hdep ⟨3, .guard⟩ (by simp) rfl) ?_
                have e0 := slot_eq (hdep ⟨22, .data⟩ (by simp) rfl)
                exact rel_pure _ rfl rfl (by simp [go_sem, e0])
              · refine grd_yes (j := 23) (b := false) rfl (hdep ⟨23, .guard⟩ (by simp) rfl) ?_
                have e0 := slot_eq (hag 6 rfl)
                exact rel_pure _ rfl rfl (by simp [go_sem, e0])
              · refine grd_yes (j := 23) (b := false) rfl (hdep ⟨23, .guard⟩ (by simp) rfl) ?_
                have e0 := slot_eq (hdep ⟨24, .data⟩ (by simp) rfl)
                have hq := (x4.keep hE).all.1
                exact rel_pure _ rfl rfl (by simp [go_sem, e0, hq])
              · refine grd_yes (j := 23) (b := false) rfl (hdep ⟨23, .guard⟩ (by simp) rfl) ?_
                have e0 := slot_eq (hag 3 rfl)
                exact rel_pure _ rfl rfl (by simp [go_sem, e0])
              · refine grd_yes (j := 23) (b := false) rfl (hdep ⟨23, .guard⟩ (by simp) rfl) ?_
                have e0 := slot_eq (hdep ⟨25, .data⟩ (by simp) rfl)
                have e1 := slot_eq (hdep ⟨26, .data⟩ (by simp) rfl)
                exact rel_pure _ rfl rfl (by simp [go_sem, e0, e1, es4])
              · refine grd_yes (j := 3) (b := true) rfl (hdep ⟨3, .guard⟩ (by simp) rfl) ?_
                have e0 := slot_eq (hdep ⟨23, .data⟩ (by simp) rfl)
                have e1 := slot_eq (hdep ⟨27, .data⟩ (by simp) rfl)
                exact rel_pure _ rfl rfl (by simp [go_sem, e0, e1])
              · refine grd_none rfl ?_
                have e0 := slot_eq (hdep ⟨3, .data⟩ (by simp) rfl)
                have e1 := slot_eq (hdep ⟨28, .data⟩ (by simp) rfl)
                exact rel_pure _ rfl rfl (by simp [go_sem, e0, e1])
            · intro t op ht hlt; cases hlt
            · intro vs wy hE hvs _
              have k29 : vs 29 = .bool true := hvs 29 (by omega)
              simp only [List.drop_succ_cons, List.drop_zero, putAll, dstAt, List.getElem?_toArray, List.getElem?_cons_zero, List.getElem?_cons_succ, Option.bind_some, Act.put, List.setIfInBounds_toArray, List.set_cons_zero, List.set_cons_succ, k29]
              clear hvs k29
              replace x1 := x1.keep hE
              replace x4 := x4.keep hE
              replace hb := hb.trans (hE.mono hb.size)
              clear hE
              obtain ⟨q1, f1, l1⟩ := x1.all
              obtain ⟨q4, f4, l4⟩ := x4.all
              go_wp2_with fail
              go_ret
              exact ⟨ret_int (Hst.out 12 (by omega) (by rw [evErr]; rw [if_neg (by simp), if_neg (by omega), if_neg (by omega), if_neg (by omega), if_pos (by omega)])).symm, hb⟩
          have es4 : (pos != bf) = false := by simpa using s4
          refine name_world ?_
          intro wz hwn
          replace x1 := bx_eq hwn x1
          replace x4 := bx_eq hwn x4
          replace hb := b_eq hwn hb
          clear hwn q1 f1 l1 q4 f4 l4
          refine wp_region_grd 30 (fun _ => false) (fun q u w' => u = [.pointer (some ⟨wr.heap.size, 1, none⟩), .int .i64 2, .bool true, .bool true, .pointer (some ⟨wr.heap.size, 2, none⟩), .int .i64 len, .bool false, .bool false, .pointer (some ⟨wr.heap.size, 2, none⟩), .int .i64 len, .bool false, .bool false, .bool false, .pointer (some ⟨wr.heap.size, 2, none⟩), .int .i64 len, .agg #[.string reel, .int .i64 2, .int .i64 len, .int .i64 inn, .int .i64 out, .int .i64 pos], .int .i64 (out - inn), .bool false, .bool false, .bool false, .bool true, .bool false, .bool false, .bool false, .pointer (some ⟨wr.heap.size, 5, none⟩), .int .i64 pos, .int .i64 bf, .bool false, .bool false, .bool false].getD q undef) (fun _ => false) (fun w' => Below wz.heap.size wz w') (by kernel_rfl) (by kernel_rfl) (fun _ _ _ _ _ h => h)
            (fun _ _ h e => e.trans (h.mono e.size)) (fun t u a' b' hb h => ?_) (Below.refl _ _).drew ?_ ?_ ?_
          · exact h
          · intro t op ht hlt hop
            clear hlt
            rcases (by omega : t = 0 ∨ t = 1 ∨ t = 2 ∨ t = 3 ∨ t = 4 ∨ t = 5 ∨ t = 6 ∨ t = 7 ∨ t = 8 ∨ t = 9 ∨ t = 10 ∨ t = 11 ∨ t = 12 ∨ t = 13 ∨ t = 14 ∨ t = 15 ∨ t = 16 ∨ t = 17 ∨ t = 18 ∨ t = 19 ∨ t = 20 ∨ t = 21 ∨ t = 22 ∨ t = 23 ∨ t = 24 ∨ t = 25 ∨ t = 26 ∨ t = 27 ∨ t = 28 ∨ t = 29) with rfl | rfl | rfl | rfl | rfl | rfl | rfl | rfl | rfl | rfl | rfl | rfl | rfl | rfl | rfl | rfl | rfl | rfl | rfl | rfl | rfl | rfl | rfl | rfl | rfl | rfl | rfl | rfl | rfl | rfl
            all_goals simp only [List.getElem?_cons_zero, List.getElem?_cons_succ, Option.some.injEq] at hop
            all_goals subst hop
            all_goals intro a wx hE hag hdep
            · refine grd_none rfl ?_
              have e0 := slot_eq (hag 6 rfl)
              exact rel_pure _ rfl rfl (by simp [go_sem, e0])
            · refine grd_none rfl ?_
              have e0 := slot_eq (hdep ⟨0, .data⟩ (by simp) rfl)
              have hq := (x4.keep hE).all.1
              exact rel_pure _ rfl rfl (by simp [go_sem, e0, hq])
            · refine grd_none rfl ?_
              have e0 := slot_eq (hdep ⟨1, .data⟩ (by simp) rfl)
              exact rel_pure _ rfl rfl (by simp [go_sem, e0])
            · refine grd_none rfl ?_
              have e0 := slot_eq (hdep ⟨2, .data⟩ (by simp) rfl)
              exact rel_pure _ rfl rfl (by simp [go_sem, e0])
            · refine grd_yes (j := 3) (b := true) rfl (hdep ⟨3, .guard⟩ (by simp) rfl) ?_
              have e0 := slot_eq (hag 6 rfl)
              exact rel_pure _ rfl rfl (by simp [go_sem, e0])
            · refine grd_yes (j := 3) (b := true) rfl (hdep ⟨3, .guard⟩ (by simp) rfl) ?_
              have e0 := slot_eq (hdep ⟨4, .data⟩ (by simp) rfl)
              have hq := (x4.keep hE).all.1
              exact rel_pure _ rfl rfl (by simp [go_sem, e0, hq])
            · refine grd_yes (j := 3) (b := true) rfl (hdep ⟨3, .guard⟩ (by simp) rfl) ?_
              have e0 := slot_eq (hdep ⟨5, .data⟩ (by simp) rfl)
              exact rel_pure _ rfl rfl (by simp [go_sem, e0, es1])
            · refine grd_yes (j := 3) (b := true) rfl (hdep ⟨3, .guard⟩ (by simp) rfl) ?_
              have e0 := slot_eq (hdep ⟨6, .data⟩ (by simp) rfl)
              exact rel_pure _ rfl rfl (by simp [go_sem, e0])
            · refine grd_yes (j := 7) (b := false) rfl (hdep ⟨7, .guard⟩ (by simp) rfl) ?_
              have e0 := slot_eq (hag 6 rfl)
              exact rel_pure _ rfl rfl (by simp [go_sem, e0])
            · refine grd_yes (j := 7) (b := false) rfl (hdep ⟨7, .guard⟩ (by simp) rfl) ?_
              have e0 := slot_eq (hdep ⟨8, .data⟩ (by simp) rfl)
              have hq := (x4.keep hE).all.1
              exact rel_pure _ rfl rfl (by simp [go_sem, e0, hq])
            · refine grd_yes (j := 7) (b := false) rfl (hdep ⟨7, .guard⟩ (by simp) rfl) ?_
              have e0 := slot_eq (hdep ⟨9, .data⟩ (by simp) rfl)
              exact rel_pure _ rfl rfl (by simp [go_sem, e0, es3])
            · refine grd_yes (j := 3) (b := true) rfl (hdep ⟨3, .guard⟩ (by simp) rfl) ?_
              have e0 := slot_eq (hdep ⟨7, .data⟩ (by simp) rfl)
              have e1 := slot_eq (hdep ⟨10, .data⟩ (by simp) rfl)
              exact rel_pure _ rfl rfl (by simp [go_sem, e0, e1])
            · refine grd_yes (j := 3) (b := true) rfl (hdep ⟨3, .guard⟩ (by simp) rfl) ?_
              have e0 := slot_eq (hdep ⟨11, .data⟩ (by simp) rfl)
              exact rel_pure _ rfl rfl (by simp [go_sem, e0])
            · refine grd_yes (j := 12) (b := false) rfl (hdep ⟨12, .guard⟩ (by simp) rfl) ?_
              have e0 := slot_eq (hag 6 rfl)
              exact rel_pure _ rfl rfl (by simp [go_sem, e0])
            · refine grd_yes (j := 12) (b := false) rfl (hdep ⟨12, .guard⟩ (by simp) rfl) ?_
              have e0 := slot_eq (hdep ⟨13, .data⟩ (by simp) rfl)
              have hq := (x4.keep hE).all.1
              exact rel_pure _ rfl rfl (by simp [go_sem, e0, hq])
            · refine grd_yes (j := 12) (b := false) rfl (hdep ⟨12, .guard⟩ (by simp) rfl) ?_
              have e0 := slot_eq (hag 6 rfl)
              have hq := (x4.keep hE).all.1
              exact rel_pure _ rfl rfl (by simp [go_sem, e0, hq])
            · refine grd_yes (j := 12) (b := false) rfl (hdep ⟨12, .guard⟩ (by simp) rfl) ?_
              have e0 := slot_eq (hdep ⟨15, .data⟩ (by simp) rfl)
              refine rel_call (f := 15) (args := #[.agg #[.string reel, .int .i64 2, .int .i64 len, .int .i64 inn, .int .i64 out, .int .i64 pos]]) (run_go_call Tryz.func15 (by kernel_rfl) (by kernel_rfl) _ _ _ _ _ _ _ _ _ _ (by simp [Act.eval, e0])) rfl ?_
              refine (conform_long reel 2 len inn out pos wx (by omega) (by omega) (by omega)).mono ?_
              rintro e w' ⟨rfl, hbx⟩
              exact ⟨_, rfl, rfl, hbx⟩
            · refine grd_yes (j := 12) (b := false) rfl (hdep ⟨12, .guard⟩ (by simp) rfl) ?_
              have e0 := slot_eq (hdep ⟨14, .data⟩ (by simp) rfl)
              have e1 := slot_eq (hdep ⟨16, .data⟩ (by simp) rfl)
              exact rel_pure _ rfl rfl (by simp [go_sem, e0, e1, es2])
            · refine grd_yes (j := 3) (b := true) rfl (hdep ⟨3, .guard⟩ (by simp) rfl) ?_
              have e0 := slot_eq (hdep ⟨12, .data⟩ (by simp) rfl)
              have e1 := slot_eq (hdep ⟨17, .data⟩ (by simp) rfl)
              exact rel_pure _ rfl rfl (by simp [go_sem, e0, e1])
            · refine grd_yes (j := 3) (b := true) rfl (hdep ⟨3, .guard⟩ (by simp) rfl) ?_
              have e0 := slot_eq (hdep ⟨18, .data⟩ (by simp) rfl)
              exact rel_pure _ rfl rfl (by simp [go_sem, e0])
            · refine grd_yes (j := 19) (b := false) rfl (hdep ⟨19, .guard⟩ (by simp) rfl) ?_
              have e0 := slot_eq (hag 4 rfl)
              exact rel_pure _ rfl rfl (by simp [go_sem, e0])
            · refine grd_yes (j := 19) (b := false) rfl (hdep ⟨19, .guard⟩ (by simp) rfl) ?_
              have e0 := slot_eq (hdep ⟨20, .data⟩ (by simp) rfl)
              exact rel_pure _ rfl rfl (by simp [go_sem, e0])
            · refine grd_yes (j := 3) (b := true) rfl (hdep ⟨3, .guard⟩ (by simp) rfl) ?_
              have e0 := slot_eq (hdep ⟨19, .data⟩ (by simp) rfl)
              have e1 := slot_eq (hdep ⟨21, .data⟩ (by simp) rfl)
              exact rel_pure _ rfl rfl (by simp [go_sem, e0, e1])
            · refine grd_yes (j := 3) (b := true) rfl (hdep ⟨3, .guard⟩ (by simp) rfl) ?_
              have e0 := slot_eq (hdep ⟨22, .data⟩ (by simp) rfl)
              exact rel_pure _ rfl rfl (by simp [go_sem, e0])
            · refine grd_yes (j := 23) (b := false) rfl (hdep ⟨23, .guard⟩ (by simp) rfl) ?_
              have e0 := slot_eq (hag 6 rfl)
              exact rel_pure _ rfl rfl (by simp [go_sem, e0])
            · refine grd_yes (j := 23) (b := false) rfl (hdep ⟨23, .guard⟩ (by simp) rfl) ?_
              have e0 := slot_eq (hdep ⟨24, .data⟩ (by simp) rfl)
              have hq := (x4.keep hE).all.1
              exact rel_pure _ rfl rfl (by simp [go_sem, e0, hq])
            · refine grd_yes (j := 23) (b := false) rfl (hdep ⟨23, .guard⟩ (by simp) rfl) ?_
              have e0 := slot_eq (hag 3 rfl)
              exact rel_pure _ rfl rfl (by simp [go_sem, e0])
            · refine grd_yes (j := 23) (b := false) rfl (hdep ⟨23, .guard⟩ (by simp) rfl) ?_
              have e0 := slot_eq (hdep ⟨25, .data⟩ (by simp) rfl)
              have e1 := slot_eq (hdep ⟨26, .data⟩ (by simp) rfl)
              exact rel_pure _ rfl rfl (by simp [go_sem, e0, e1, es4])
            · refine grd_yes (j := 3) (b := true) rfl (hdep ⟨3, .guard⟩ (by simp) rfl) ?_
              have e0 := slot_eq (hdep ⟨23, .data⟩ (by simp) rfl)
              have e1 := slot_eq (hdep ⟨27, .data⟩ (by simp) rfl)
              exact rel_pure _ rfl rfl (by simp [go_sem, e0, e1])
            · refine grd_none rfl ?_
              have e0 := slot_eq (hdep ⟨3, .data⟩ (by simp) rfl)
              have e1 := slot_eq (hdep ⟨28, .data⟩ (by simp) rfl)
              exact rel_pure _ rfl rfl (by simp [go_sem, e0, e1])
          · intro t op ht hlt; cases hlt
          · intro vs wy hE hvs _
            have k29 : vs 29 = .bool false := hvs 29 (by omega)
            simp only [List.drop_succ_cons, List.drop_zero, putAll, dstAt, List.getElem?_toArray, List.getElem?_cons_zero, List.getElem?_cons_succ, Option.bind_some, Act.put, List.setIfInBounds_toArray, List.set_cons_zero, List.set_cons_succ, k29]
            clear hvs k29
            replace x1 := x1.keep hE
            replace x4 := x4.keep hE
            replace hb := hb.trans (hE.mono hb.size)
            clear hE
            obtain ⟨q1, f1, l1⟩ := x1.all
            obtain ⟨q4, f4, l4⟩ := x4.all
            go_wp2_with fail
            refine name_world ?_
            intro wz hwn
            replace x1 := bx_eq hwn x1
            replace x4 := bx_eq hwn x4
            replace hb := b_eq hwn hb
            clear hwn q1 f1 l1 q4 f4 l4
            refine wp_region_grd 5 (fun _ => false) (fun q u w' => u = [.pointer (some ⟨wr.heap.size, 5, none⟩), .int .i64 pos, .agg #[.string reel, .int .i64 2, .int .i64 len, .int .i64 inn, .int .i64 out, .int .i64 pos], .int .i64 (out - inn), .int .i64 (pos + (out - inn))].getD q undef) (fun _ => false) (fun w' => Below wz.heap.size wz w') (by kernel_rfl) (by kernel_rfl) (fun _ _ _ _ _ h => h)
              (fun _ _ h e => e.trans (h.mono e.size)) (fun t u a' b' hb h => ?_) (Below.refl _ _).drew ?_ ?_ ?_
            · exact h
            · intro t op ht hlt hop
              clear hlt
              rcases (by omega : t = 0 ∨ t = 1 ∨ t = 2 ∨ t = 3 ∨ t = 4) with rfl | rfl | rfl | rfl | rfl
              all_goals simp only [List.getElem?_cons_zero, List.getElem?_cons_succ, Option.some.injEq] at hop
              all_goals subst hop
              all_goals intro a wx hE hag hdep
              · refine grd_none rfl ?_
                have e0 := slot_eq (hag 6 rfl)
                exact rel_pure _ rfl rfl (by simp [go_sem, e0])
              · refine grd_none rfl ?_
                have e0 := slot_eq (hdep ⟨0, .data⟩ (by simp) rfl)
                have hq := (x4.keep hE).all.1
                exact rel_pure _ rfl rfl (by simp [go_sem, e0, hq])
              · refine grd_none rfl ?_
                have e0 := slot_eq (hag 6 rfl)
                have hq := (x4.keep hE).all.1
                exact rel_pure _ rfl rfl (by simp [go_sem, e0, hq])
              · refine grd_none rfl ?_
                have e0 := slot_eq (hdep ⟨2, .data⟩ (by simp) rfl)
                refine rel_call (f := 15) (args := #[.agg #[.string reel, .int .i64 2, .int .i64 len, .int .i64 inn, .int .i64 out, .int .i64 pos]]) (run_go_call Tryz.func15 (by kernel_rfl) (by kernel_rfl) _ _ _ _ _ _ _ _ _ _ (by simp [Act.eval, e0])) rfl ?_
                refine (conform_long reel 2 len inn out pos wx (by omega) (by omega) (by omega)).mono ?_
                rintro e w' ⟨rfl, hbx⟩
                exact ⟨_, rfl, rfl, hbx⟩
              · refine grd_none rfl ?_
                have e0 := slot_eq (hdep ⟨1, .data⟩ (by simp) rfl)
                have e1 := slot_eq (hdep ⟨3, .data⟩ (by simp) rfl)
                have hw : IntKind.i64.wrap (pos + (out - inn)) = pos + (out - inn) := IntWalk.i64_in _ (by omega)
                exact rel_pure _ rfl rfl (by simp [go_sem, e0, e1, hw])
            · intro t op ht hlt; cases hlt
            · intro vs wy hE hvs _
              have k4 : vs 4 = .int .i64 (pos + (out - inn)) := hvs 4 (by omega)
              simp only [List.drop_succ_cons, List.drop_zero, putAll, dstAt, List.getElem?_toArray, List.getElem?_cons_zero, List.getElem?_cons_succ, Option.bind_some, Act.put, List.setIfInBounds_toArray, List.set_cons_zero, List.set_cons_succ, k4]
              clear hvs k4
              replace x1 := x1.keep hE
              replace hb := hb.trans (hE.mono hb.size)
              clear hE x4
              obtain ⟨q1, f1, l1⟩ := x1.all
              go_wp2_with fail
              go_roundw
              case rel => exact ⟨k + 1, true, pos + (out - inn), by omega, rfl, rfl, by go_num, by simp, Hbf, Hnext.out (by rw [evErr]; rw [if_neg (by simp), if_neg (by omega), if_neg (by omega), if_neg (by omega), if_neg (by omega)]), hb, x1⟩
              case measure => simp [intOf]; omega
    · have hkn : k = n := by omega
      subst hkn
      have hres0 : res = 0 := by rw [Hr.out]; exact hz0.out
      have Hr0 := Lib.hid hres0
      clear hres0
      obtain ⟨q1, f1, l1⟩ := x1.all
      go_wp2_with fail
      go_ret
      exact ⟨ret_int Hr0.out.symm, hb⟩
end Go.Proofs.YtemlabmmafcapaaGreatDoor
