/- conform.Compare of two right lists. (printed by gen_dap.py) -/
import Derived.Test.YtemlabmmafcapaaGreatDoorDaN
import Derived.Test.YtemlabmmafcapaaGreatDoorChk
namespace Go.Proofs.YtemlabmmafcapaaGreatDoor
open Go.RowKit

theorem marksP_snoc (es : List Ev) (j : Nat) (hj : j < es.length) : marksP (es.take (j + 1)) = marksP (es.take j) ++ (([(es.getD j default).pos, (es.getD j default).stop] ++ (List.range (es.getD j default).len.toNat).map fun (k : Nat) => (es.getD j default).pos + ((k : Int) + 1))) := by
  induction es generalizing j with
  | nil => simp at hj
  | cons v r ih =>
    cases j with
    | zero => simp [marksP, List.getD]
    | succ j =>
      have hj' : j < r.length := by simpa using hj
      have := ih j hj'
      rw [List.take_succ_cons, marksP, this, List.take_succ_cons, marksP, List.append_assoc]
      simp [List.getD]
theorem run_index0 (ta tb : ByteArray) (ra rb : Int) (aa ab : Option Addr) (na nb ca cb : Nat) (w : World) : (Instr.index 75 (.agg #[.string ta, .int .i64 ra, .slice aa na ca, .string tb, .int .i64 rb, .slice ab nb cb]) (.int .i64 0)).run Tryz.prog w = .ok (.agg #[.string ta, .int .i64 ra, .slice aa na ca]) w := by kernel_rfl
theorem run_index1 (ta tb : ByteArray) (ra rb : Int) (aa ab : Option Addr) (na nb ca cb : Nat) (w : World) : (Instr.index 75 (.agg #[.string ta, .int .i64 ra, .slice aa na ca, .string tb, .int .i64 rb, .slice ab nb cb]) (.int .i64 1)).run Tryz.prog w = .ok (.agg #[.string tb, .int .i64 rb, .slice ab nb cb]) w := by kernel_rfl
theorem errs_zero {t : ByteArray} {r : Int} {es : List Ev} (h : editsErr t r es = 0) : evsTo es es.length = 0 ∧ es.length ≤ 500 := by
  unfold editsErr at h
  split at h
  · cases h
  split at h
  · cases h
  split at h
  · cases h
  · exact ⟨h, by omega⟩

theorem out_eqd {w w' : World} {B m : Nat} {v : Value} {L : List (Int × Int)} (h : w' = w.drewN m) (x : OutR B w v L) : OutR B w' v L := by rw [h]; exact x
/-- How the program finds two frames alike. -/
theorem alike_prog {es ds : List Ev} (hok : evsTo es es.length = 0) (hod : evsTo ds ds.length = 0) {f : Int} {r1 s1 r2 s2 : ByteArray} {x1 g1 x2 g2 er1 er2 : Int} {h1 h2 : Nat}
    (c1 : (atK es f = none ∧ er1 = 11 ∧ r1 = ⟨#[]⟩ ∧ x1 = 0 ∧ s1 = ⟨#[]⟩ ∧ g1 = 0 ∧ h1 = 0) ∨ ∃ k, atK es f = some k ∧ er1 = 0 ∧ shOf es f k = ⟨r1, x1, s1, g1, h1⟩)
    (c2 : (atK ds f = none ∧ er2 = 11 ∧ r2 = ⟨#[]⟩ ∧ x2 = 0 ∧ s2 = ⟨#[]⟩ ∧ g2 = 0 ∧ h2 = 0) ∨ ∃ k, atK ds f = some k ∧ er2 = 0 ∧ shOf ds f k = ⟨r2, x2, s2, g2, h2⟩) :
    alike2 es ds f = ((er1 == er2) && (decide (h1 = h2) && (decide (r1 = r2) && (decide (x1 = x2) && (decide (s1 = s2) && (decide (g1 = g2) && FloatKind.f32.format.order h1 h2 == some .eq)))))) := by
  rw [alike_ref hok hod c1 c2]
  rcases c1 with ⟨a1, rfl, rfl, rfl, rfl, rfl, rfl⟩ | ⟨k, a1, rfl, a3⟩
  · rcases c2 with ⟨b1, rfl, rfl, rfl, rfl, rfl, rfl⟩ | ⟨j, b1, rfl, b3⟩
    · decide
    · rfl
  · rcases c2 with ⟨b1, rfl, _⟩ | ⟨j, b1, rfl, b3⟩
    · rfl
    · obtain ⟨w1, m1, i1, q1⟩ := sh_word hok a1
      obtain ⟨w2, m2, i2, q2⟩ := sh_word hod b1
      rw [a3] at w1 q1
      rw [b3] at w2 q2
      simp only [] at w1 w2 q1 q2
      by_cases hh : h1 = h2
      · rw [decide_eq_true hh]; simp
      · have ho : (FloatKind.f32.format.order h1 h2 == some .eq) = false := by
          cases ho : (FloatKind.f32.format.order h1 h2 == some .eq)
          · rfl
          · have ho2 : FloatKind.f32.format.order h1 h2 = some .eq := by simpa using ho
            exact absurd (pos_inj w1 w2 q1 q2 ho2) hh
        rw [ho, decide_eq_false hh]; simp

set_option maxRecDepth 100000 in
set_option maxHeartbeats 8000000 in
theorem conform_Compare (ta tb : ByteArray) (ra rb : Int) (va vb : Value) (ea eb : List Ev) (W : World) (ha : SlE W va ea) (hb : SlE W vb eb) (oka : editsErr ta ra ea = 0) (okb : editsErr tb rb eb = 0) :
    Calls Tryz.prog 9 #[.agg #[.string ta, .int .i64 ra, va], .agg #[.string tb, .int .i64 rb, vb]] W fun e w' => ∃ v, e = .returned (.tuple #[v, .int .i64 0]) ∧ OutR W.heap.size w' v (cmpP ea eb) ∧ Below W.heap.size W w' := by
  have hcm : cmpP ea eb = rngs (marked ([0, imax (lastE ea) (lastE eb)] ++ marksP ea ++ marksP eb)) (alike2 ea eb) ((marked ([0, imax (lastE ea) (lastE eb)] ++ marksP ea ++ marksP eb)).length - 1) := rfl
  generalize cmpP ea eb = CM at hcm ⊢
  have HCM := Lib.hid hcm
  clear hcm
  have HA := Lib.hid ha
  have HB := Lib.hid hb
  obtain ⟨oa, la⟩ := errs_zero oka
  obtain ⟨ob, lb⟩ := errs_zero okb
  have Oa := Lib.hid oa
  have Ob := Lib.hid ob
  have Ka : Hid (∀ w, SlE w va ea → Calls Tryz.prog 11 #[.agg #[.string ta, .int .i64 ra, va]] w fun e w' => e = .returned (.int .i64 0) ∧ Below w.heap.size w w') := Lib.hid fun w h => by rw [← oka]; exact conform_CheckList ta ra va ea w h
  have Kb : Hid (∀ w, SlE w vb eb → Calls Tryz.prog 11 #[.agg #[.string tb, .int .i64 rb, vb]] w fun e w' => e = .returned (.int .i64 0) ∧ Below w.heap.size w w') := Lib.hid fun w h => by rw [← okb]; exact conform_CheckList tb rb vb eb w h
  clear oa ob oka okb
  obtain ⟨aa, ca, rfl, hma, hfa⟩ := ha
  obtain ⟨ab, cb, rfl, hmb, hfb⟩ := hb
  obtain ⟨na, hna⟩ : ∃ n, n = ea.length := ⟨_, rfl⟩
  obtain ⟨nb, hnb⟩ : ∃ n, n = eb.length := ⟨_, rfl⟩
  rw [← hna] at hma la HA Ka ⊢
  rw [← hnb] at hmb lb HB Kb ⊢
  have Hna := Lib.hid hna
  have Hnb := Lib.hid hnb
  clear hna hnb hma hmb
  go_enter Tryz.func9, Tryz.ntmps9
  go_upto_region 2 with fail
  refine name_world ?_
  intro w0 hw0
  have x2 : Bx w0 W.heap.size 24 #[.string ta, .int .i64 ra, .slice aa na ca] := by rw [hw0]; exact (Bx.new _ _ _).alloc _
  have x3 : Bx w0 (W.heap.size + 1) 24 #[.string tb, .int .i64 rb, .slice ab nb cb] := by rw [hw0]; exact Bx.at _ (by simp)
  have B : Below W.heap.size W w0 := by rw [hw0]; exact bnew (bnew (Below.refl _ W))
  clear hw0
  have ix0 := run_index0 ta tb ra rb aa ab na nb ca cb
  have ix1 := run_index1 ta tb ra rb aa ab na nb ca cb
  refine wp_loop_rounds 3 ?_
  rw [rounds_succ]
  go_wp2_with fail
  refine nm_call ?_
  intro w1 hw1
  have hb1 := below_eq hw1
  clear hw1
  replace x2 := x2.keep hb1
  replace x3 := x3.keep hb1
  replace B := bcall B hb1
  clear hb1
  refine (Ka.out _ (HA.out.keep B)).mono ?_
  rintro e w2 ⟨rfl, hb2⟩
  replace x2 := x2.keep hb2
  replace x3 := x3.keep hb2
  replace B := bcall B hb2
  clear hb2
  go_wp2_with fail
  rw [rounds_succ]
  go_wp2_with fail
  refine nm_call ?_
  intro w3 hw3
  have hb3 := below_eq hw3
  clear hw3
  replace x2 := x2.keep hb3
  replace x3 := x3.keep hb3
  replace B := bcall B hb3
  clear hb3
  refine (Kb.out _ (HB.out.keep B)).mono ?_
  rintro e w4 ⟨rfl, hb4⟩
  replace x2 := x2.keep hb4
  replace x3 := x3.keep hb4
  replace B := bcall B hb4
  clear hb4 Ka Kb
  go_wp2_with fail
  rw [rounds_succ]
  go_upto_region 8 with fail
  refine wp_region_grd 5 (fun _ => false) (fun q u w' => u = [.agg #[.string ta, .int .i64 ra, .slice aa na ca], .int .i64 (lastE ea), .agg #[.string tb, .int .i64 rb, .slice ab nb cb], .int .i64 (lastE eb), .int .i64 (imax (lastE ea) (lastE eb))].getD q undef) (fun _ => false) (fun w' => Below w4.heap.size w4 w') (by kernel_rfl) (by kernel_rfl) (fun _ _ _ _ _ h => h)
    (fun _ _ h e => e.trans (h.mono e.size)) (fun t u a' b' hb h => ?_) (Below.refl _ _).drew ?_ ?_ ?_
  · exact h
  · intro t op ht hlt hop
    clear hlt
    rcases (by omega : t = 0 ∨ t = 1 ∨ t = 2 ∨ t = 3 ∨ t = 4) with rfl | rfl | rfl | rfl | rfl
    all_goals simp only [List.getElem?_cons_zero, List.getElem?_cons_succ, Option.some.injEq] at hop
    all_goals subst hop
    all_goals intro a wx hE hag hdep
    · refine grd_none rfl ?_
      have e0 := slot_eq (hag 2 rfl)
      have hq := (x2.keep hE).all.1
      exact rel_pure _ rfl rfl (by simp [go_sem, e0, hq])
    · refine grd_none rfl ?_
      have e0 := slot_eq (hdep ⟨0, .data⟩ (by simp) rfl)
      refine rel_call (f := 28) (args := #[.agg #[.string ta, .int .i64 ra, .slice aa na ca]]) (run_go_call Tryz.func28 (by kernel_rfl) (by kernel_rfl) _ _ _ _ _ _ _ _ _ _ (by simp [Act.eval, e0])) rfl ?_
      refine (conform_ends ta ra _ ea wx (HA.out.keep (B.trans (hE.mono B.size))) Oa.out).mono ?_
      rintro e w' ⟨rfl, hbx⟩
      exact ⟨_, rfl, rfl, hbx⟩
    · refine grd_none rfl ?_
      have e0 := slot_eq (hag 3 rfl)
      have hq := (x3.keep hE).all.1
      exact rel_pure _ rfl rfl (by simp [go_sem, e0, hq])
    · refine grd_none rfl ?_
      have e0 := slot_eq (hdep ⟨2, .data⟩ (by simp) rfl)
      refine rel_call (f := 28) (args := #[.agg #[.string tb, .int .i64 rb, .slice ab nb cb]]) (run_go_call Tryz.func28 (by kernel_rfl) (by kernel_rfl) _ _ _ _ _ _ _ _ _ _ (by simp [Act.eval, e0])) rfl ?_
      refine (conform_ends tb rb _ eb wx (HB.out.keep (B.trans (hE.mono B.size))) Ob.out).mono ?_
      rintro e w' ⟨rfl, hbx⟩
      exact ⟨_, rfl, rfl, hbx⟩
    · refine grd_none rfl ?_
      have e0 := slot_eq (hdep ⟨1, .data⟩ (by simp) rfl)
      have e1 := slot_eq (hdep ⟨3, .data⟩ (by simp) rfl)
      exact rel_pure _ rfl rfl (by simp [go_sem, e0, e1])
  · intro t op ht hlt; cases hlt
  intro vs wy hE hvs _
  have k4 : vs 4 = .int .i64 (imax (lastE ea) (lastE eb)) := hvs 4 (by omega)
  simp only [List.drop_succ_cons, List.drop_zero, putAll, dstAt, List.getElem?_toArray, List.getElem?_cons_zero, List.getElem?_cons_succ, Option.bind_some, Act.put, List.setIfInBounds_toArray, List.set_cons_zero, List.set_cons_succ, k4]
  clear hvs k4
  replace x2 := x2.keep hE
  replace x3 := x3.keep hE
  replace B := B.trans (hE.mono B.size)
  clear hE
  obtain ⟨LM, hLM⟩ : ∃ L, L = imax (lastE ea) (lastE eb) := ⟨_, rfl⟩
  rw [← hLM]
  have HLM := Lib.hid hLM
  clear hLM
  obtain ⟨q2, f2, l2⟩ := x2.all
  obtain ⟨q3, f3, l3⟩ := x3.all
  go_upto_region 10 with fail
  refine name_world ?_
  intro w5 hw5
  have xm : Bx w5 wy.heap.size 3 #[.int .i64 0, .int .i64 LM] := by rw [hw5]; exact Bx.new _ _ _
  have hb5 := below_eq hw5
  have l2y := x2.lt
  have l3y := x3.lt
  have lBy := B.size
  have mk : Mk W.heap.size w5 (.slice (some ⟨wy.heap.size, 0, none⟩) 2 2) [0, LM] [W.heap.size, W.heap.size + 1] := Mk.start xm rfl (by simp [maxLen]) (by omega) (by simp; omega)
  replace x2 := x2.keep hb5
  replace x3 := x3.keep hb5
  replace B := bcall B hb5
  clear hb5 hw5 xm q2 f2 l2 q3 f3 l3 l2y l3y lBy
  refine wp_loop_rounds 3 ?_
  rw [rounds_succ]
  go_upto_region 13 with fail
  refine name_world ?_
  intro v0 hv0
  have hb9 := below_eq hv0
  clear hv0
  replace x2 := x2.keep hb9
  replace x3 := x3.keep hb9
  replace mk := mk.below hb9
  replace B := bcall B hb9
  clear hb9
  go_loopw [9, 52] (fun s9 i wr => ∃ (j : Nat) (zs : List Int), j ≤ na ∧ i = .int .i64 (j : Int) ∧ Hid (zs = [0, LM] ++ marksP (ea.take j)) ∧ zs.length ≤ [0, LM].length + 253 * j ∧ Mk W.heap.size wr s9 zs [W.heap.size, W.heap.size + 1] ∧ Bx wr W.heap.size 24 #[.string ta, .int .i64 ra, .slice aa na ca] ∧ Bx wr (W.heap.size + 1) 24 #[.string tb, .int .i64 rb, .slice ab nb cb] ∧ Below W.heap.size W wr) (fun _ i _ => na - (intOf i).toNat)
  case atStart => exact ⟨0, [0, LM], by omega, rfl, Lib.hid (by simp [marksP]), by simp, mk, x2, x3, B⟩
  case round =>
    clear x2 x3 mk B
    obtain ⟨j, zs, hj, rfl, hz, hlen, mk, x2, x3, B⟩ := hrel
    by_cases hlt : j < na
    · rcases hfa with h0 | ⟨b, o, rfl, hbl, hat⟩
      · exfalso
        have := Hna.out
        rw [h0] at this
        simp at this
        omega
      obtain ⟨c0, c1, c2, c3, c4, c5⟩ := (hat j (by rw [← Hna.out]; exact hlt)).keep B hbl
      obtain ⟨b1, b2, b3, b4, b5, b6, b7⟩ := ev_bounds Oa.out (j := j) (by rw [← Hna.out]; exact hlt)
      have hsn := marksP_snoc ea j (by rw [← Hna.out]; exact hlt)
      unfold Ev.stop at hsn
      rw [show (ea.getD j default).pos + (ea.getD j default).out - (ea.getD j default).inn = (ea.getD j default).pos + ((ea.getD j default).out - (ea.getD j default).inn) by omega] at hsn
      clear hat
      generalize (ea.getD j default).reel = reel at c0
      generalize (ea.getD j default).kind = kind at c1
      generalize (ea.getD j default).len = len at c2 hsn b6 b7
      generalize (ea.getD j default).inn = inn at c3 hsn b1 b2
      generalize (ea.getD j default).out = out at c4 hsn b2 b3
      generalize (ea.getD j default).pos = pos at c5 hsn b4 b5
      have Hsn := Lib.hid hsn
      clear hsn
      have hji : (j : Int) < (na : Int) := by omega
      obtain ⟨g, cap, rfl, mk⟩ := mk.form
      go_upto_region 15 with fail
      refine name_world ?_
      intro w3 hw3
      have x10 : Bx w3 wr.heap.size 55 #[.string reel, .int .i64 kind, .int .i64 len, .int .i64 inn, .int .i64 out, .int .i64 pos] := by rw [hw3]; exact Bx.new _ _ _
      have hb9 : Below wr.heap.size wr w3 := by rw [hw3]; exact bnew (Below.refl _ wr)
      clear hw3 c0 c1 c2 c3 c4 c5
      replace x2 := x2.keep hb9
      replace x3 := x3.keep hb9
      replace mk := mk.more hb9 (Nat.le_refl _)
      replace B := bcall B hb9
      clear hb9
      generalize hp10 : wr.heap.size = p10 at *
      clear hp10
      refine wp_region_grd 9 (fun _ => false) (fun q u w' => if q = 8 then ∃ gn, u = .slice (some ⟨gn, 0, none⟩) 2 2 ∧ w3.heap.size ≤ gn ∧ Bx w' gn 3 #[.int .i64 pos, .int .i64 (pos + (out - inn))] else u = [.slice (some ⟨g, 0, none⟩) zs.length cap, .pointer (some ⟨p10, 5, none⟩), .int .i64 pos, .pointer (some ⟨p10, 5, none⟩), .int .i64 pos, .agg #[.string reel, .int .i64 kind, .int .i64 len, .int .i64 inn, .int .i64 out, .int .i64 pos], .int .i64 (out - inn), .int .i64 (pos + (out - inn))].getD q undef) (fun _ => false) (fun w' => Below w3.heap.size w3 w') (by kernel_rfl) (by kernel_rfl) (fun _ _ _ _ _ h => h)
        (fun _ _ h e => e.trans (h.mono e.size)) (fun t u a' b' hb h => ?_) (Below.refl _ _).drew ?_ ?_ ?_
      · split
        · rename_i h4
          rw [if_pos h4] at h
          obtain ⟨gn, e1, e2, e3⟩ := h
          exact ⟨gn, e1, e2, e3.keep hb⟩
        · rename_i h4
          rw [if_neg h4] at h
          exact h
      · intro t op ht hlt hop
        clear hlt
        rcases (by omega : t = 0 ∨ t = 1 ∨ t = 2 ∨ t = 3 ∨ t = 4 ∨ t = 5 ∨ t = 6 ∨ t = 7 ∨ t = 8) with rfl | rfl | rfl | rfl | rfl | rfl | rfl | rfl | rfl
        all_goals simp only [List.getElem?_cons_zero, List.getElem?_cons_succ, Option.some.injEq] at hop
        all_goals subst hop
        all_goals intro a wx hE hag hdep
        · refine grd_none rfl ?_
          have e0 := slot_eq (hag 9 rfl)
          exact rel_pure _ rfl rfl (by simp [go_sem, e0])
        · refine grd_none rfl ?_
          have e0 := slot_eq (hag 13 rfl)
          exact rel_pure _ rfl rfl (by simp [go_sem, e0])
        · refine grd_none rfl ?_
          have e0 := slot_eq (hdep ⟨1, .data⟩ (by simp) rfl)
          have hq := (x10.keep hE).all.1
          exact rel_pure _ rfl rfl (by simp [go_sem, e0, hq])
        · refine grd_none rfl ?_
          have e0 := slot_eq (hag 13 rfl)
          exact rel_pure _ rfl rfl (by simp [go_sem, e0])
        · refine grd_none rfl ?_
          have e0 := slot_eq (hdep ⟨3, .data⟩ (by simp) rfl)
          have hq := (x10.keep hE).all.1
          exact rel_pure _ rfl rfl (by simp [go_sem, e0, hq])
        · refine grd_none rfl ?_
          have e0 := slot_eq (hag 13 rfl)
          have hq := (x10.keep hE).all.1
          exact rel_pure _ rfl rfl (by simp [go_sem, e0, hq])
        · refine grd_none rfl ?_
          have e0 := slot_eq (hdep ⟨5, .data⟩ (by simp) rfl)
          refine rel_call (f := 15) (args := #[.agg #[.string reel, .int .i64 kind, .int .i64 len, .int .i64 inn, .int .i64 out, .int .i64 pos]]) (run_go_call Tryz.func15 (by kernel_rfl) (by kernel_rfl) _ _ _ _ _ _ _ _ _ _ (by simp [Act.eval, e0])) rfl ?_
          refine (conform_long reel kind len inn out pos wx b1 b2 b3).mono ?_
          rintro e w' ⟨rfl, hbx⟩
          exact ⟨_, rfl, rfl, hbx⟩
        · refine grd_none rfl ?_
          have e0 := slot_eq (hdep ⟨4, .data⟩ (by simp) rfl)
          have e1 := slot_eq (hdep ⟨6, .data⟩ (by simp) rfl)
          have hw : IntKind.i64.wrap (pos + (out - inn)) = pos + (out - inn) := IntWalk.i64_in _ (by omega)
          exact rel_pure _ rfl rfl (by simp [go_sem, e0, e1, hw])
        · refine grd_none rfl ?_
          have e0 := slot_eq (hdep ⟨2, .data⟩ (by simp) rfl)
          have e1 := slot_eq (hdep ⟨7, .data⟩ (by simp) rfl)
          exact rel_val (v := .slice (some ⟨wx.heap.size, 0, none⟩) 2 2) (w' := wx.alloc (.cells #[.int .i64 pos, .int .i64 (pos + (out - inn))] 3)) (by simp [go_sem, e0, e1]) ⟨wx.heap.size, rfl, hE.size, Bx.new _ _ _⟩ (bnew (Below.refl _ _)) (fun h => by cases h)
      · intro t op ht hlt; cases hlt
      intro vs wy hE hvs _
      have k0 : vs 0 = .slice (some ⟨g, 0, none⟩) zs.length cap := hvs 0 (by omega)
      obtain ⟨gn, k8, hgn, xn⟩ := hvs 8 (by omega)
      simp only [List.drop_succ_cons, List.drop_zero, putAll, dstAt, List.getElem?_toArray, List.getElem?_cons_zero, List.getElem?_cons_succ, Option.bind_some, Act.put, List.setIfInBounds_toArray, List.set_cons_zero, List.set_cons_succ, k0, k8]
      clear hvs k0 k8
      replace x2 := x2.keep hE
      replace x3 := x3.keep hE
      replace x10 := x10.keep hE
      replace mk := mk.below hE
      replace B := bcall B hE
      clear hE
      have lx := x10.lt
      have lx3 := x3.lt
      have lB := B.size
      have hzl : [0, LM].length ≤ 200000 := by simp
      refine mk_append (nz := [pos, pos + (out - inn)]) rfl (.tmp 56) (.tmp 64) rfl rfl gn 2 2 rfl rfl mk xn ?c1a ?c2a ?c3a ?c4a ?c5a
      case c1a => simp
      case c2a => simp only [List.length_cons, List.length_nil]; omega
      case c3a => omega
      case c4a => intro k hk; simp at hk; omega
      intro v6 w6 mk6 hbx hbel hsz
      replace x10 := hbx _ _ _ (by simp) x10
      replace x2 := hbx _ _ _ (by simp) x2
      replace x3 := hbx _ _ _ (by simp) x3
      replace B := hbel _ B
      clear xn hgn
      clear hbx hbel hsz mk lx lx3 lB
      generalize hz1 : zs ++ [pos, pos + (out - inn)] = z1 at mk6
      have Hz1l := Lib.hid (show z1.length = zs.length + 2 by rw [← hz1]; simp)
      have Hz1 := Lib.hid hz1
      clear hz1
      obtain ⟨g6, cap6, rfl, mk⟩ := mk6.form
      clear mk6
      obtain ⟨q10, f10, l10⟩ := x10.all
      go_wp2_with fail
      go_loopw [9, 14] (fun s9 i wr => ∃ (q : Nat) (zq : List Int), (q : Int) ≤ len ∧ i = .int .i64 ((q : Int) + 1) ∧ Hid (zq = z1 ++ (List.range q).map fun (k : Nat) => pos + ((k : Int) + 1)) ∧ zq.length ≤ z1.length + q ∧ Mk W.heap.size wr s9 zq (p10 :: [W.heap.size, W.heap.size + 1]) ∧ Bx wr p10 55 #[.string reel, .int .i64 kind, .int .i64 len, .int .i64 inn, .int .i64 out, .int .i64 pos] ∧ Bx wr W.heap.size 24 #[.string ta, .int .i64 ra, .slice (some ⟨b, o, none⟩) na ca] ∧ Bx wr (W.heap.size + 1) 24 #[.string tb, .int .i64 rb, .slice ab nb cb] ∧ Below W.heap.size W wr) (fun _ i _ => (len.toNat + 2) - (intOf i).toNat)
      case atStart => exact ⟨0, z1, by omega, rfl, Lib.hid (by simp), by omega, mk, x10, x2, x3, B⟩
      case round =>
        clear x10 x2 x3 mk B q10 f10 l10
        obtain ⟨q, zq, hq, rfl, hzq, hql, mk, x10, x2, x3, B⟩ := hrel
        obtain ⟨gq, capq, rfl, mk⟩ := mk.form
        obtain ⟨q10, f10, l10⟩ := x10.all
        by_cases hlq : (q : Int) + 1 ≤ len
        · have lx := x10.lt
          have lx3 := x3.lt
          have lB := B.size
          have elq : decide ((q : Int) + 1 ≤ len) = true := decide_eq_true hlq
          go_upto_region 19 with fail
          go_wp2_with (at_builtin; refine mk_append (nz := [pos + ((q : Int) + 1)]) rfl (.tmp 72) (.tmp 77) rfl rfl wr.heap.size 1 1 rfl rfl (mk.below (below_eq rfl)) (Bx.new wr 3 #[.int .i64 (pos + ((q : Int) + 1))]) ?d1a ?d2a ?d3a ?d4a ?d5a)
          case d1a => simp
          case d2a => have := Hz1l.out; simp only [List.length_cons, List.length_nil]; omega
          case d3a => simp; omega
          case d4a => intro k hk; simp at hk ⊢; omega
          intro v7 w7 mk7 hbx hbel hsz
          replace x10 := hbx _ _ _ (by simp) (x10.alloc _)
          replace x2 := hbx _ _ _ (by simp) (x2.alloc _)
          replace x3 := hbx _ _ _ (by simp) (x3.alloc _)
          replace B := hbel _ (bnew B)
          clear hbx hbel hsz mk q10 f10 l10 lx lx3 lB
          go_wp2_with fail
          go_roundw
          case rel => exact ⟨q + 1, zq ++ [pos + ((q : Int) + 1)], by omega, by go_num, Lib.hid (by rw [hzq.out, List.range_succ, List.map_append, List.append_assoc]; rfl), (by rw [List.length_append, List.length_singleton]; omega), mk7, x10, x2, x3, B⟩
          case measure => simp [intOf]; omega
        · have elq : decide ((q : Int) + 1 ≤ len) = false := decide_eq_false hlq
          have hqe : len.toNat = q := by omega
          have hfin : zq = [0, LM] ++ marksP (ea.take (j + 1)) := by rw [Hsn.out, hzq.out, ← Hz1.out, hz.out, hqe, List.append_assoc, List.append_assoc]
          have Hfin := Lib.hid hfin
          clear hfin
          have hz1l := Hz1l.out
          have hql2 : zq.length ≤ [0, LM].length + 253 * (j + 1) := by omega
          clear hz1l
          go_wp2_with fail
          go_roundw
          case rel => exact ⟨j + 1, zq, by omega, by go_num, Hfin, hql2, mk.less (by intro k hk; simp at hk ⊢; omega), x2, x3, B⟩
          case measure => simp [intOf]; omega
    · have hjn : ea.take j = ea := List.take_of_length_le (by rw [← Hna.out]; omega)
      rw [hjn] at hz
      generalize zs = za at *
      have hza := hz
      have hlena : za.length ≤ 130000 := by have h9 := hlen; first | omega | (simp only [List.length_cons, List.length_nil] at h9; omega)
      clear hz hlen
      obtain ⟨ga, capa, rfl, mk⟩ := mk.form
      go_wp2_with fail
      rw [rounds_succ]
      go_upto_region 13 with fail
      refine name_world ?_
      intro v1 hv1
      have hb9 := below_eq hv1
      clear hv1
      replace x2 := x2.keep hb9
      replace x3 := x3.keep hb9
      replace mk := mk.below hb9
      replace B := bcall B hb9
      clear hb9
      go_loopw [9, 52] (fun s9 i wr => ∃ (j : Nat) (zs : List Int), j ≤ nb ∧ i = .int .i64 (j : Int) ∧ Hid (zs = za ++ marksP (eb.take j)) ∧ zs.length ≤ za.length + 253 * j ∧ Mk W.heap.size wr s9 zs [W.heap.size, W.heap.size + 1] ∧ Bx wr W.heap.size 24 #[.string ta, .int .i64 ra, .slice aa na ca] ∧ Bx wr (W.heap.size + 1) 24 #[.string tb, .int .i64 rb, .slice ab nb cb] ∧ Below W.heap.size W wr) (fun _ i _ => nb - (intOf i).toNat)
      case atStart => exact ⟨0, za, by omega, rfl, Lib.hid (by simp [marksP]), by simp, mk, x2, x3, B⟩
      case round =>
        clear x2 x3 mk B
        obtain ⟨j, zs, hj, rfl, hz, hlen, mk, x2, x3, B⟩ := hrel
        by_cases hlt : j < nb
        · rcases hfb with h0 | ⟨b, o, rfl, hbl, hat⟩
          · exfalso
            have := Hnb.out
            rw [h0] at this
            simp at this
            omega
          obtain ⟨c0, c1, c2, c3, c4, c5⟩ := (hat j (by rw [← Hnb.out]; exact hlt)).keep B hbl
          obtain ⟨b1, b2, b3, b4, b5, b6, b7⟩ := ev_bounds Ob.out (j := j) (by rw [← Hnb.out]; exact hlt)
          have hsn := marksP_snoc eb j (by rw [← Hnb.out]; exact hlt)
          unfold Ev.stop at hsn
          rw [show (eb.getD j default).pos + (eb.getD j default).out - (eb.getD j default).inn = (eb.getD j default).pos + ((eb.getD j default).out - (eb.getD j default).inn) by omega] at hsn
          clear hat
          generalize (eb.getD j default).reel = reel at c0
          generalize (eb.getD j default).kind = kind at c1
          generalize (eb.getD j default).len = len at c2 hsn b6 b7
          generalize (eb.getD j default).inn = inn at c3 hsn b1 b2
          generalize (eb.getD j default).out = out at c4 hsn b2 b3
          generalize (eb.getD j default).pos = pos at c5 hsn b4 b5
          have Hsn := Lib.hid hsn
          clear hsn
          have hji : (j : Int) < (nb : Int) := by omega
          obtain ⟨g, cap, rfl, mk⟩ := mk.form
          go_upto_region 15 with fail
          refine name_world ?_
          intro w3 hw3
          have x10 : Bx w3 wr.heap.size 55 #[.string reel, .int .i64 kind, .int .i64 len, .int .i64 inn, .int .i64 out, .int .i64 pos] := by rw [hw3]; exact Bx.new _ _ _
          have hb9 : Below wr.heap.size wr w3 := by rw [hw3]; exact bnew (Below.refl _ wr)
          clear hw3 c0 c1 c2 c3 c4 c5
          replace x2 := x2.keep hb9
          replace x3 := x3.keep hb9
          replace mk := mk.more hb9 (Nat.le_refl _)
          replace B := bcall B hb9
          clear hb9
          generalize hp10 : wr.heap.size = p10 at *
          clear hp10
          refine wp_region_grd 9 (fun _ => false) (fun q u w' => if q = 8 then ∃ gn, u = .slice (some ⟨gn, 0, none⟩) 2 2 ∧ w3.heap.size ≤ gn ∧ Bx w' gn 3 #[.int .i64 pos, .int .i64 (pos + (out - inn))] else u = [.slice (some ⟨g, 0, none⟩) zs.length cap, .pointer (some ⟨p10, 5, none⟩), .int .i64 pos, .pointer (some ⟨p10, 5, none⟩), .int .i64 pos, .agg #[.string reel, .int .i64 kind, .int .i64 len, .int .i64 inn, .int .i64 out, .int .i64 pos], .int .i64 (out - inn), .int .i64 (pos + (out - inn))].getD q undef) (fun _ => false) (fun w' => Below w3.heap.size w3 w') (by kernel_rfl) (by kernel_rfl) (fun _ _ _ _ _ h => h)
            (fun _ _ h e => e.trans (h.mono e.size)) (fun t u a' b' hb h => ?_) (Below.refl _ _).drew ?_ ?_ ?_
          · split
            · rename_i h4
              rw [if_pos h4] at h
              obtain ⟨gn, e1, e2, e3⟩ := h
              exact ⟨gn, e1, e2, e3.keep hb⟩
            · rename_i h4
              rw [if_neg h4] at h
              exact h
          · intro t op ht hlt hop
            clear hlt
            rcases (by omega : t = 0 ∨ t = 1 ∨ t = 2 ∨ t = 3 ∨ t = 4 ∨ t = 5 ∨ t = 6 ∨ t = 7 ∨ t = 8) with rfl | rfl | rfl | rfl | rfl | rfl | rfl | rfl | rfl
            all_goals simp only [List.getElem?_cons_zero, List.getElem?_cons_succ, Option.some.injEq] at hop
            all_goals subst hop
            all_goals intro a wx hE hag hdep
            · refine grd_none rfl ?_
              have e0 := slot_eq (hag 9 rfl)
              exact rel_pure _ rfl rfl (by simp [go_sem, e0])
            · refine grd_none rfl ?_
              have e0 := slot_eq (hag 13 rfl)
              exact rel_pure _ rfl rfl (by simp [go_sem, e0])
            · refine grd_none rfl ?_
              have e0 := slot_eq (hdep ⟨1, .data⟩ (by simp) rfl)
              have hq := (x10.keep hE).all.1
              exact rel_pure _ rfl rfl (by simp [go_sem, e0, hq])
            · refine grd_none rfl ?_
              have e0 := slot_eq (hag 13 rfl)
              exact rel_pure _ rfl rfl (by simp [go_sem, e0])
            · refine grd_none rfl ?_
              have e0 := slot_eq (hdep ⟨3, .data⟩ (by simp) rfl)
              have hq := (x10.keep hE).all.1
              exact rel_pure _ rfl rfl (by simp [go_sem, e0, hq])
            · refine grd_none rfl ?_
              have e0 := slot_eq (hag 13 rfl)
              have hq := (x10.keep hE).all.1
              exact rel_pure _ rfl rfl (by simp [go_sem, e0, hq])
            · refine grd_none rfl ?_
              have e0 := slot_eq (hdep ⟨5, .data⟩ (by simp) rfl)
              refine rel_call (f := 15) (args := #[.agg #[.string reel, .int .i64 kind, .int .i64 len, .int .i64 inn, .int .i64 out, .int .i64 pos]]) (run_go_call Tryz.func15 (by kernel_rfl) (by kernel_rfl) _ _ _ _ _ _ _ _ _ _ (by simp [Act.eval, e0])) rfl ?_
              refine (conform_long reel kind len inn out pos wx b1 b2 b3).mono ?_
              rintro e w' ⟨rfl, hbx⟩
              exact ⟨_, rfl, rfl, hbx⟩
            · refine grd_none rfl ?_
              have e0 := slot_eq (hdep ⟨4, .data⟩ (by simp) rfl)
              have e1 := slot_eq (hdep ⟨6, .data⟩ (by simp) rfl)
              have hw : IntKind.i64.wrap (pos + (out - inn)) = pos + (out - inn) := IntWalk.i64_in _ (by omega)
              exact rel_pure _ rfl rfl (by simp [go_sem, e0, e1, hw])
            · refine grd_none rfl ?_
              have e0 := slot_eq (hdep ⟨2, .data⟩ (by simp) rfl)
              have e1 := slot_eq (hdep ⟨7, .data⟩ (by simp) rfl)
              exact rel_val (v := .slice (some ⟨wx.heap.size, 0, none⟩) 2 2) (w' := wx.alloc (.cells #[.int .i64 pos, .int .i64 (pos + (out - inn))] 3)) (by simp [go_sem, e0, e1]) ⟨wx.heap.size, rfl, hE.size, Bx.new _ _ _⟩ (bnew (Below.refl _ _)) (fun h => by cases h)
          · intro t op ht hlt; cases hlt
          intro vs wy hE hvs _
          have k0 : vs 0 = .slice (some ⟨g, 0, none⟩) zs.length cap := hvs 0 (by omega)
          obtain ⟨gn, k8, hgn, xn⟩ := hvs 8 (by omega)
          simp only [List.drop_succ_cons, List.drop_zero, putAll, dstAt, List.getElem?_toArray, List.getElem?_cons_zero, List.getElem?_cons_succ, Option.bind_some, Act.put, List.setIfInBounds_toArray, List.set_cons_zero, List.set_cons_succ, k0, k8]
          clear hvs k0 k8
          replace x2 := x2.keep hE
          replace x3 := x3.keep hE
          replace x10 := x10.keep hE
          replace mk := mk.below hE
          replace B := bcall B hE
          clear hE
          have lx := x10.lt
          have lx3 := x3.lt
          have lB := B.size
          have hzl : za.length ≤ 200000 := by omega
          refine mk_append (nz := [pos, pos + (out - inn)]) rfl (.tmp 56) (.tmp 64) rfl rfl gn 2 2 rfl rfl mk xn ?c1b ?c2b ?c3b ?c4b ?c5b
          case c1b => simp
          case c2b => simp only [List.length_cons, List.length_nil]; omega
          case c3b => omega
          case c4b => intro k hk; simp at hk; omega
          intro v6 w6 mk6 hbx hbel hsz
          replace x10 := hbx _ _ _ (by simp) x10
          replace x2 := hbx _ _ _ (by simp) x2
          replace x3 := hbx _ _ _ (by simp) x3
          replace B := hbel _ B
          clear xn hgn
          clear hbx hbel hsz mk lx lx3 lB
          generalize hz1 : zs ++ [pos, pos + (out - inn)] = z1 at mk6
          have Hz1l := Lib.hid (show z1.length = zs.length + 2 by rw [← hz1]; simp)
          have Hz1 := Lib.hid hz1
          clear hz1
          obtain ⟨g6, cap6, rfl, mk⟩ := mk6.form
          clear mk6
          obtain ⟨q10, f10, l10⟩ := x10.all
          go_wp2_with fail
          go_loopw [9, 14] (fun s9 i wr => ∃ (q : Nat) (zq : List Int), (q : Int) ≤ len ∧ i = .int .i64 ((q : Int) + 1) ∧ Hid (zq = z1 ++ (List.range q).map fun (k : Nat) => pos + ((k : Int) + 1)) ∧ zq.length ≤ z1.length + q ∧ Mk W.heap.size wr s9 zq (p10 :: [W.heap.size, W.heap.size + 1]) ∧ Bx wr p10 55 #[.string reel, .int .i64 kind, .int .i64 len, .int .i64 inn, .int .i64 out, .int .i64 pos] ∧ Bx wr W.heap.size 24 #[.string ta, .int .i64 ra, .slice aa na ca] ∧ Bx wr (W.heap.size + 1) 24 #[.string tb, .int .i64 rb, .slice (some ⟨b, o, none⟩) nb cb] ∧ Below W.heap.size W wr) (fun _ i _ => (len.toNat + 2) - (intOf i).toNat)
          case atStart => exact ⟨0, z1, by omega, rfl, Lib.hid (by simp), by omega, mk, x10, x2, x3, B⟩
          case round =>
            clear x10 x2 x3 mk B q10 f10 l10
            obtain ⟨q, zq, hq, rfl, hzq, hql, mk, x10, x2, x3, B⟩ := hrel
            obtain ⟨gq, capq, rfl, mk⟩ := mk.form
            obtain ⟨q10, f10, l10⟩ := x10.all
            by_cases hlq : (q : Int) + 1 ≤ len
            · have lx := x10.lt
              have lx3 := x3.lt
              have lB := B.size
              have elq : decide ((q : Int) + 1 ≤ len) = true := decide_eq_true hlq
              go_upto_region 19 with fail
              go_wp2_with (at_builtin; refine mk_append (nz := [pos + ((q : Int) + 1)]) rfl (.tmp 72) (.tmp 77) rfl rfl wr.heap.size 1 1 rfl rfl (mk.below (below_eq rfl)) (Bx.new wr 3 #[.int .i64 (pos + ((q : Int) + 1))]) ?d1b ?d2b ?d3b ?d4b ?d5b)
              case d1b => simp
              case d2b => have := Hz1l.out; simp only [List.length_cons, List.length_nil]; omega
              case d3b => simp; omega
              case d4b => intro k hk; simp at hk ⊢; omega
              intro v7 w7 mk7 hbx hbel hsz
              replace x10 := hbx _ _ _ (by simp) (x10.alloc _)
              replace x2 := hbx _ _ _ (by simp) (x2.alloc _)
              replace x3 := hbx _ _ _ (by simp) (x3.alloc _)
              replace B := hbel _ (bnew B)
              clear hbx hbel hsz mk q10 f10 l10 lx lx3 lB
              go_wp2_with fail
              go_roundw
              case rel => exact ⟨q + 1, zq ++ [pos + ((q : Int) + 1)], by omega, by go_num, Lib.hid (by rw [hzq.out, List.range_succ, List.map_append, List.append_assoc]; rfl), (by rw [List.length_append, List.length_singleton]; omega), mk7, x10, x2, x3, B⟩
              case measure => simp [intOf]; omega
            · have elq : decide ((q : Int) + 1 ≤ len) = false := decide_eq_false hlq
              have hqe : len.toNat = q := by omega
              have hfin : zq = za ++ marksP (eb.take (j + 1)) := by rw [Hsn.out, hzq.out, ← Hz1.out, hz.out, hqe, List.append_assoc, List.append_assoc]
              have Hfin := Lib.hid hfin
              clear hfin
              have hz1l := Hz1l.out
              have hql2 : zq.length ≤ za.length + 253 * (j + 1) := by omega
              clear hz1l
              go_wp2_with fail
              go_roundw
              case rel => exact ⟨j + 1, zq, by omega, by go_num, Hfin, hql2, mk.less (by intro k hk; simp at hk ⊢; omega), x2, x3, B⟩
              case measure => simp [intOf]; omega
        · have hjn : eb.take j = eb := List.take_of_length_le (by rw [← Hnb.out]; omega)
          rw [hjn] at hz
          generalize zs = zb at *
          have hzb := hz
          have hlenb : zb.length ≤ 260000 := by have h9 := hlen; first | omega | (simp only [List.length_cons, List.length_nil] at h9; omega)
          clear hz hlen
          obtain ⟨gb, capb, rfl, mk⟩ := mk.form
          go_wp2_with fail
          rw [rounds_succ]
          obtain ⟨ho, hgB, hgl, hgn, hgK⟩ := mk.own
          have hgne : gb ≠ W.heap.size ∧ gb ≠ W.heap.size + 1 := ⟨hgK _ (by simp), hgK _ (by simp)⟩
          clear mk hgK
          go_wp2_with fail
          refine (sort_own ho (by intro e; cases e) (by omega) (by omega)).mono ?_
          rintro e v8 ⟨rfl, ho8, hb8⟩
          replace x2 := x2.below hb8 (by omega)
          replace x3 := x3.below hb8 (by omega)
          replace B := B.trans (hb8.mono hgB)
          clear ho hb8
          go_wp2_with fail
          refine (compact_own ho8 (by intro e; cases e) (by omega)).mono ?_
          rintro e v9 ⟨gc, capc, rfl, ho9, hb9⟩
          have lgc : gc < v9.heap.size := by rcases ho9.2 with ⟨h0, _⟩ | ⟨g', _, _, e1, _, e3, _⟩; · cases h0
                                             · injection e1 with e1; injection e1 with e1; injection e1 with e1; rw [e1]; exact (Array.getElem?_eq_some_iff.1 e3).1
          replace x2 := x2.below hb9 (by omega)
          replace x3 := x3.below hb9 (by omega)
          replace B := B.trans (hb9.mono hgB)
          clear ho8 hb9
          have hzall : zb = [0, LM] ++ marksP ea ++ marksP eb := by rw [hzb.out, hza.out]
          have hM0 : Lib.compact (zb.mergeSort fun x y => decide (x ≤ y)) = marked zb := rfl
          rw [hM0] at ho9 ⊢
          obtain ⟨hM1, hM2⟩ := marked_spec zb
          have hcm := HCM.out
          rw [← HLM.out, ← hzall] at hcm
          have h0M : (0 : Int) ∈ marked zb := (hM2 0).2 (by rw [hzall]; simp)
          have hlM : (marked zb).length ≤ zb.length := by
            have h1 := Lib.compact_length_le (zb.mergeSort fun x y => decide (x ≤ y))
            rw [List.length_mergeSort] at h1
            exact h1
          generalize marked zb = M at *
          obtain ⟨n, hn⟩ : ∃ n, n = M.length := ⟨_, rfl⟩
          rw [← hn] at ho9 hlM hcm ⊢
          have hn0 : 0 < n := by rw [hn]; exact List.length_pos_of_mem h0M
          have hcell : ∀ k, k < n → v9.cell? ⟨gc, k, none⟩ = some (.int .i64 (M.getD k 0)) := by
            intro k hk
            rw [ho9.cellAt k (by omega), List.getElem?_map, List.getElem?_eq_getElem (by omega)]
            simp [List.getD, show k < M.length by omega]
          have Hcell := Lib.hid hcell
          have Hcm := Lib.hid hcm
          have hnb : n ≤ 260000 := by omega
          clear hcell hcm hn hM1 hM2 h0M hM0 hzall ho9 hza hzb HCM HLM hfa hfb hlM
          clear hlena hlenb
          have hWv := B.size
          go_wp2_with fail
          go_loopw [15, 16] (fun s15 i wr => ∃ k : Nat, k + 1 ≤ n ∧ i = .int .i64 ((k : Int) + 1) ∧ OutR v9.heap.size wr s15 (rngs M (alike2 ea eb) k) ∧ Below v9.heap.size v9 wr) (fun _ i _ => n + 1 - (intOf i).toNat)
          case atStart => exact ⟨0, by omega, rfl, OutR.nil _ _, Below.refl _ _⟩
          case round =>
            obtain ⟨k, hk, rfl, hout, hbl⟩ := hrel
            have hsz := hbl.size
            replace x2 := x2.keep hbl
            replace x3 := x3.keep hbl
            replace B := bcall B hbl
            by_cases hlt : k + 1 < n
            · have hki : (k : Int) + 1 < (n : Int) := by omega
              have hki0 : (k : Int) < (n : Int) := by omega
              have hc0 : wr.cell? ⟨gc, k, none⟩ = some (.int .i64 (M.getD k 0)) := (hbl.cell (p := ⟨gc, k, none⟩) lgc).trans (Hcell.out k (by omega))
              have hc1 : wr.cell? ⟨gc, k + 1, none⟩ = some (.int .i64 (M.getD (k + 1) 0)) := (hbl.cell (p := ⟨gc, k + 1, none⟩) lgc).trans (Hcell.out (k + 1) hlt)
              have hkk : (k : Int) + 1 - 1 = (k : Int) := by omega
              have hnext : rngs M (alike2 ea eb) (k + 1) = stepR (rngs M (alike2 ea eb) k) (M.getD k 0) (M.getD (k + 1) 0) (alike2 ea eb (M.getD k 0)) := rfl
              have hrl := rngs_len M (alike2 ea eb) k
              generalize rngs M (alike2 ea eb) k = L at hout hnext hrl
              generalize M.getD k 0 = m at hc0 hnext
              generalize M.getD (k + 1) 0 = te at hc1 hnext
              have Hnext := Lib.hid hnext
              clear hnext
              obtain ⟨e1, r1, y1, s1, g1, h1, er1, hf1, hc1'⟩ := atR_form ea m
              obtain ⟨e2, r2, y2, s2, g2, h2, er2, hf2, hc2'⟩ := atR_form eb m
              have Hal := Lib.hid (alike_prog Oa.out Ob.out hc1' hc2')
              have Hf1 := Lib.hid hf1
              have Hf2 := Lib.hid hf2
              clear hf1 hf2 hc1' hc2'
              go_wp2_with fail
              go_quiet (fail)
              go_upto_region 29 with fail
              refine name_world ?_
              intro wd hwd
              have x2d := bx_eqd hwd x2
              have x3d := bx_eqd hwd x3
              have Bd := b_eqd hwd B
              have hbld := b_eqd hwd hbl
              have houtd := out_eqd hwd hout
              have hszd : v9.heap.size ≤ wd.heap.size := hbld.size
              clear hwd hc0 hc1 x2 x3 B hbl hout hsz
              obtain ⟨q2, f2, l2⟩ := x2d.all
              go_wp2_with fail
              refine (conform_at ta ra _ ea m _ (HA.out.keep Bd) Oa.out).mono ?_
              rintro e w1 ⟨rfl, hb1⟩
              rw [Hf1.out]
              clear q2 f2 l2
              replace x2d := x2d.keep hb1
              replace x3d := x3d.keep hb1
              replace houtd := houtd.below hb1
              replace Bd := bcall Bd hb1
              replace hbld := hbld.trans (hb1.mono hszd)
              replace hszd := Nat.le_trans hszd hb1.size
              clear hb1
              obtain ⟨q3, f3, l3⟩ := x3d.all
              go_wp2_with fail
              refine nm_call ?_
              intro w2 hw2
              have x16 : Bx w2 w1.heap.size 33 #[.int .i64 e1, .string r1, .int .i64 y1, .string s1, .int .i64 g1, .float .f32 h1] := by rw [hw2]; exact Bx.new _ _ _
              have hb2 := below_eq hw2
              have B2 := bcall Bd hb2
              clear hw2 q3 f3 l3
              refine (conform_at tb rb _ eb m _ (HB.out.keep B2) Ob.out).mono ?_
              rintro e w3 ⟨rfl, hb3⟩
              rw [Hf2.out]
              replace x16 := x16.keep hb3
              have b13 := hb2.trans (hb3.mono hb2.size)
              clear hb2 hb3 B2
              have l16 := x16.lt
              obtain ⟨q16, f16, l16'⟩ := x16.all
              go_upto_region 32 with fail
              refine name_world ?_
              intro w4 hw4
              have x18 : Bx w4 w3.heap.size 33 #[.int .i64 0, .string r2, .int .i64 y2, .string s2, .int .i64 g2, .float .f32 h2] := by rw [hw4]; first | exact Bx.at _ (by simp [World.setCell]) | exact ((Bx.new w3 _ _).set 0 _) | skip
              have y16 : Bx w4 w1.heap.size 33 #[.int .i64 0, .string r1, .int .i64 y1, .string s1, .int .i64 g1, .float .f32 h1] := by rw [hw4]; first | exact (x16.set 0 _).alloc _ | exact ((x16.alloc _).set 0 _)
              have b14 : Below w1.heap.size w1 w4 := by rw [hw4]; first | exact bnew (bput (Nat.le_refl _) b13) | skip
              clear hw4 x16 q16 f16 l16' b13 l16
              replace houtd := houtd.below b14
              replace hbld := hbld.trans (b14.mono hszd)
              clear b14 hszd x2d x3d Bd
              obtain ⟨bq, hbq⟩ : ∃ b, b = (decide (r1 = r2) && (decide (y1 = y2) && (decide (s1 = s2) && (decide (g1 = g2) && FloatKind.f32.format.order h1 h2 == some .eq)))) := ⟨_, rfl⟩
              have heq : ∀ w, (Op.equalIn 10000 33 (.agg #[.int .i64 0, .string r1, .int .i64 y1, .string s1, .int .i64 g1, .float .f32 h1]) (.agg #[.int .i64 0, .string r2, .int .i64 y2, .string s2, .int .i64 g2, .float .f32 h2])).run Tryz.prog w = .ok bq w := fun w => by rw [hbq]; exact run_eq_shot0 y1 y2 g1 g2 r1 r2 s1 s2 h1 h2 w
              have hal := Hal.out
              rw [← hbq] at hal
              clear hbq Hal
              generalize alike2 ea eb m = al at hal Hnext
              obtain ⟨q16, f16, l16'⟩ := y16.all
              obtain ⟨q18, f18, l18⟩ := x18.all
              cases hce : (er1 == er2)
              · rw [hce, Bool.false_and] at hal
                subst hal
                go_quiet (fail)
                go_upto_region 33 with fail
                refine name_world ?_
                intro w5 hw5
                have hout5 := out_eqd hw5 houtd
                have hbl5 := b_eqd hw5 hbld
                have hsz5 := hbl5.size
                clear hw5 y16 x18 q16 f16 l16' q18 f18 l18 heq hbld houtd
                rcases hout5.form with ⟨rfl, rfl⟩ | ⟨g, cap, rfl, hgB2, hgl2, hout2⟩
                · have hst : rngs M (alike2 ea eb) (k + 1) = [] ++ [(m, te)] := by rw [Hnext.out]; unfold stepR; simp
                  have Hst := Lib.hid hst
                  clear hst Hnext hout5
                  go_upto_region 34 with fail
                  go_wp2_with (at_builtin; refine rg_append (B := v9.heap.size) (m := m) (te := te) rfl (.tmp 134) (.tmp 138) rfl rfl w5.heap.size 1 rfl (OutR.nil _ _) (Bx.new w5 81 #[.int .i64 m, .int .i64 te]) ?e1ax ?e2ax ?e3ax)
                  case e1ax => simp
                  case e2ax => have := hsz5; simp; omega
                  intro v6 w6 ho6 hb6
                  have hbl6 := hb6 _ _ (Nat.le_refl _) (bnew hbl5)
                  clear hb6
                  go_wp2_with fail
                  go_roundw
                  case rel => exact ⟨k + 1, by omega, by go_num, by rw [Hst.out]; exact ho6, hbl6⟩
                  case measure => simp [intOf]; omega
                · obtain ⟨N, hN⟩ : ∃ N, N = L.length := ⟨_, rfl⟩
                  rw [← hN] at hout2 hrl ⊢
                  have HN := Lib.hid hN
                  have hown : w5.ownsRow v9.heap.size 81 2 (.slice (some ⟨g, 0, none⟩) N cap) N (rgC L) := by have h0 := hout2; unfold OutR at h0; rw [← hN] at h0; exact h0
                  have hout3 := hout2
                  clear hN hout5 hout2
                  by_cases hN0 : N = 0
                  · have hst : rngs M (alike2 ea eb) (k + 1) = L ++ [(m, te)] := by rw [Hnext.out]; unfold stepR; rw [if_neg (by simp), if_neg (by rw [← HN.out]; omega)]
                    have Hst := Lib.hid hst
                    clear hst Hnext
                    subst hN0
                    go_upto_region 34 with fail
                    go_wp2_with (at_builtin; refine rg_append (B := v9.heap.size) (m := m) (te := te) rfl (.tmp 134) (.tmp 138) rfl rfl w5.heap.size 1 rfl (hout3.below (below_eq rfl)) (Bx.new w5 81 #[.int .i64 m, .int .i64 te]) ?e1ay ?e2ay ?e3ay)
                    case e1ay => rw [← HN.out]; omega
                    case e2ay => have := hsz5; simp; omega
                    intro v6 w6 ho6 hb6
                    have hbl6 := hb6 _ _ (Nat.le_refl _) (bnew hbl5)
                    clear hb6
                    go_wp2_with fail
                    go_roundw
                    case rel => exact ⟨k + 1, by omega, by go_num, by rw [Hst.out]; exact ho6, hbl6⟩
                    case measure => simp [intOf]; omega
                  · obtain ⟨n1, hn1⟩ : ∃ n1, N = n1 + 1 := ⟨N - 1, by omega⟩
                    have hn2 : (N : Int) - 1 = (n1 : Int) := by omega
                    have hn3 : (n1 : Int) < (N : Int) := by omega
                    have hcl : w5.cell? ⟨g, n1 * 2 + 1, none⟩ = some (.int .i64 (L.getD n1 default).2) := by
                      rw [World.ownsRow.cellAt hown (n1 * 2 + 1) (by omega)]
                      exact rgC_get (by rw [← HN.out]; omega)
                    have hfz : w5.frozen? ⟨g, n1 * 2 + 1, none⟩ = false := World.ownsRow.frozenAt hown _
                    have hst := Hnext.out
                    unfold stepR at hst
                    rw [if_neg (by simp), ← HN.out, show N - 1 = n1 by omega] at hst
                    have hset : 0 < N → OutR v9.heap.size (w5.setCell ⟨g, n1 * 2 + 1, none⟩ (.int .i64 te)) (.slice (some ⟨g, 0, none⟩) N cap) (L.set n1 ((L.getD n1 default).1, te)) := fun _ => by
                      have := (World.ownsRow.stored hown (n1 * 2 + 1) (.int .i64 te)).1
                      rw [rgC_set (by rw [← HN.out]; omega)] at this
                      unfold OutR
                      rw [List.length_set, ← HN.out]
                      exact this
                    have Hset := Lib.hid hset
                    clear hset
                    generalize (L.getD n1 default).2 = tl at hcl hst
                    have Hn1 := Lib.hid hn1
                    clear hn1
                    by_cases htm : tl = m
                    · rw [if_pos ⟨by omega, htm⟩] at hst
                      have ht : (tl == m) = true := by simpa using htm
                      have Hst := Lib.hid hst
                      clear hst Hnext htm
                      go_wp2_with fail
                      go_roundw
                      case rel => exact ⟨k + 1, by omega, by go_num, by rw [Hst.out]; exact Hset.out (by omega), bput hgB2 hbl5⟩
                      case measure => simp [intOf]; omega
                    · rw [if_neg (fun h => htm h.2)] at hst
                      have ht : (tl == m) = false := by simpa using htm
                      have Hst := Lib.hid hst
                      clear hst Hnext htm Hset
                      go_upto_region 34 with fail
                      go_wp2_with (at_builtin; refine rg_append (B := v9.heap.size) (m := m) (te := te) rfl (.tmp 134) (.tmp 138) rfl rfl w5.heap.size 1 rfl (hout3.below (below_eq rfl)) (Bx.new w5 81 #[.int .i64 m, .int .i64 te]) ?e1az ?e2az ?e3az)
                      case e1az => rw [← HN.out]; omega
                      case e2az => have := hsz5; simp; omega
                      intro v6 w6 ho6 hb6
                      have hbl6 := hb6 _ _ (Nat.le_refl _) (bnew hbl5)
                      clear hb6
                      go_wp2_with fail
                      go_roundw
                      case rel => exact ⟨k + 1, by omega, by go_num, by rw [Hst.out]; exact ho6, hbl6⟩
                      case measure => simp [intOf]; omega
              · rw [hce, Bool.true_and] at hal
                by_cases hh : h1 = h2
                · have hbt : ((h1 : Int) == (h2 : Int)) = true := by rw [hh]; simp
                  have hbt2 : (h1 == h2) = true := by rw [hh]; simp
                  rw [decide_eq_true hh, Bool.true_and] at hal
                  have Hh := Lib.hid hh
                  clear hh
                  cases bq
                  · subst hal
                    go_quiet (fail)
                    go_upto_region 33 with fail
                    refine name_world ?_
                    intro w5 hw5
                    have hout5 := out_eqd hw5 houtd
                    have hbl5 := b_eqd hw5 hbld
                    have hsz5 := hbl5.size
                    clear hw5 y16 x18 q16 f16 l16' q18 f18 l18 heq hbld houtd
                    rcases hout5.form with ⟨rfl, rfl⟩ | ⟨g, cap, rfl, hgB2, hgl2, hout2⟩
                    · have hst : rngs M (alike2 ea eb) (k + 1) = [] ++ [(m, te)] := by rw [Hnext.out]; unfold stepR; simp
                      have Hst := Lib.hid hst
                      clear hst Hnext hout5
                      go_upto_region 34 with fail
                      go_wp2_with (at_builtin; refine rg_append (B := v9.heap.size) (m := m) (te := te) rfl (.tmp 134) (.tmp 138) rfl rfl w5.heap.size 1 rfl (OutR.nil _ _) (Bx.new w5 81 #[.int .i64 m, .int .i64 te]) ?e1bx ?e2bx ?e3bx)
                      case e1bx => simp
                      case e2bx => have := hsz5; simp; omega
                      intro v6 w6 ho6 hb6
                      have hbl6 := hb6 _ _ (Nat.le_refl _) (bnew hbl5)
                      clear hb6
                      go_wp2_with fail
                      go_roundw
                      case rel => exact ⟨k + 1, by omega, by go_num, by rw [Hst.out]; exact ho6, hbl6⟩
                      case measure => simp [intOf]; omega
                    · obtain ⟨N, hN⟩ : ∃ N, N = L.length := ⟨_, rfl⟩
                      rw [← hN] at hout2 hrl ⊢
                      have HN := Lib.hid hN
                      have hown : w5.ownsRow v9.heap.size 81 2 (.slice (some ⟨g, 0, none⟩) N cap) N (rgC L) := by have h0 := hout2; unfold OutR at h0; rw [← hN] at h0; exact h0
                      have hout3 := hout2
                      clear hN hout5 hout2
                      by_cases hN0 : N = 0
                      · have hst : rngs M (alike2 ea eb) (k + 1) = L ++ [(m, te)] := by rw [Hnext.out]; unfold stepR; rw [if_neg (by simp), if_neg (by rw [← HN.out]; omega)]
                        have Hst := Lib.hid hst
                        clear hst Hnext
                        subst hN0
                        go_upto_region 34 with fail
                        go_wp2_with (at_builtin; refine rg_append (B := v9.heap.size) (m := m) (te := te) rfl (.tmp 134) (.tmp 138) rfl rfl w5.heap.size 1 rfl (hout3.below (below_eq rfl)) (Bx.new w5 81 #[.int .i64 m, .int .i64 te]) ?e1by ?e2by ?e3by)
                        case e1by => rw [← HN.out]; omega
                        case e2by => have := hsz5; simp; omega
                        intro v6 w6 ho6 hb6
                        have hbl6 := hb6 _ _ (Nat.le_refl _) (bnew hbl5)
                        clear hb6
                        go_wp2_with fail
                        go_roundw
                        case rel => exact ⟨k + 1, by omega, by go_num, by rw [Hst.out]; exact ho6, hbl6⟩
                        case measure => simp [intOf]; omega
                      · obtain ⟨n1, hn1⟩ : ∃ n1, N = n1 + 1 := ⟨N - 1, by omega⟩
                        have hn2 : (N : Int) - 1 = (n1 : Int) := by omega
                        have hn3 : (n1 : Int) < (N : Int) := by omega
                        have hcl : w5.cell? ⟨g, n1 * 2 + 1, none⟩ = some (.int .i64 (L.getD n1 default).2) := by
                          rw [World.ownsRow.cellAt hown (n1 * 2 + 1) (by omega)]
                          exact rgC_get (by rw [← HN.out]; omega)
                        have hfz : w5.frozen? ⟨g, n1 * 2 + 1, none⟩ = false := World.ownsRow.frozenAt hown _
                        have hst := Hnext.out
                        unfold stepR at hst
                        rw [if_neg (by simp), ← HN.out, show N - 1 = n1 by omega] at hst
                        have hset : 0 < N → OutR v9.heap.size (w5.setCell ⟨g, n1 * 2 + 1, none⟩ (.int .i64 te)) (.slice (some ⟨g, 0, none⟩) N cap) (L.set n1 ((L.getD n1 default).1, te)) := fun _ => by
                          have := (World.ownsRow.stored hown (n1 * 2 + 1) (.int .i64 te)).1
                          rw [rgC_set (by rw [← HN.out]; omega)] at this
                          unfold OutR
                          rw [List.length_set, ← HN.out]
                          exact this
                        have Hset := Lib.hid hset
                        clear hset
                        generalize (L.getD n1 default).2 = tl at hcl hst
                        have Hn1 := Lib.hid hn1
                        clear hn1
                        by_cases htm : tl = m
                        · rw [if_pos ⟨by omega, htm⟩] at hst
                          have ht : (tl == m) = true := by simpa using htm
                          have Hst := Lib.hid hst
                          clear hst Hnext htm
                          go_wp2_with fail
                          go_roundw
                          case rel => exact ⟨k + 1, by omega, by go_num, by rw [Hst.out]; exact Hset.out (by omega), bput hgB2 hbl5⟩
                          case measure => simp [intOf]; omega
                        · rw [if_neg (fun h => htm h.2)] at hst
                          have ht : (tl == m) = false := by simpa using htm
                          have Hst := Lib.hid hst
                          clear hst Hnext htm Hset
                          go_upto_region 34 with fail
                          go_wp2_with (at_builtin; refine rg_append (B := v9.heap.size) (m := m) (te := te) rfl (.tmp 134) (.tmp 138) rfl rfl w5.heap.size 1 rfl (hout3.below (below_eq rfl)) (Bx.new w5 81 #[.int .i64 m, .int .i64 te]) ?e1bz ?e2bz ?e3bz)
                          case e1bz => rw [← HN.out]; omega
                          case e2bz => have := hsz5; simp; omega
                          intro v6 w6 ho6 hb6
                          have hbl6 := hb6 _ _ (Nat.le_refl _) (bnew hbl5)
                          clear hb6
                          go_wp2_with fail
                          go_roundw
                          case rel => exact ⟨k + 1, by omega, by go_num, by rw [Hst.out]; exact ho6, hbl6⟩
                          case measure => simp [intOf]; omega
                  · subst hal
                    go_quiet (fail)
                    go_upto_region 33 with fail
                    refine name_world ?_
                    intro w5 hw5
                    have hout5 := out_eqd hw5 houtd
                    have hbl5 := b_eqd hw5 hbld
                    have hsz5 := hbl5.size
                    clear hw5 y16 x18 q16 f16 l16' q18 f18 l18 heq hbld houtd
                    have hst : rngs M (alike2 ea eb) (k + 1) = L := by rw [Hnext.out]; unfold stepR; rw [if_pos rfl]
                    have Hst := Lib.hid hst
                    clear hst Hnext
                    rcases hout5.form with ⟨rfl, rfl⟩ | ⟨g, cap, rfl, hgB2, hgl2, hout2⟩
                    · clear hout5
                      go_wp2_with fail
                      go_roundw
                      case rel => exact ⟨k + 1, by omega, by go_num, by rw [Hst.out]; exact OutR.nil _ _, hbl5⟩
                      case measure => simp [intOf]; omega
                    · obtain ⟨N, hN⟩ : ∃ N, N = L.length := ⟨_, rfl⟩
                      rw [← hN] at hout2 hrl ⊢
                      clear hN hout5
                      go_wp2_with fail
                      go_roundw
                      case rel => exact ⟨k + 1, by omega, by go_num, by rw [Hst.out]; exact hout2, hbl5⟩
                      case measure => simp [intOf]; omega
                · have hbt : ((h1 : Int) == (h2 : Int)) = false := beq_eq_false_iff_ne.2 (by omega)
                  have hbt2 : (h1 == h2) = false := by simpa using hh
                  rw [decide_eq_false hh, Bool.false_and] at hal
                  have Hh := Lib.hid hh
                  clear hh
                  subst hal
                  go_quiet (fail)
                  go_upto_region 33 with fail
                  refine name_world ?_
                  intro w5 hw5
                  have hout5 := out_eqd hw5 houtd
                  have hbl5 := b_eqd hw5 hbld
                  have hsz5 := hbl5.size
                  clear hw5 y16 x18 q16 f16 l16' q18 f18 l18 heq hbld houtd
                  rcases hout5.form with ⟨rfl, rfl⟩ | ⟨g, cap, rfl, hgB2, hgl2, hout2⟩
                  · have hst : rngs M (alike2 ea eb) (k + 1) = [] ++ [(m, te)] := by rw [Hnext.out]; unfold stepR; simp
                    have Hst := Lib.hid hst
                    clear hst Hnext hout5
                    go_upto_region 34 with fail
                    go_wp2_with (at_builtin; refine rg_append (B := v9.heap.size) (m := m) (te := te) rfl (.tmp 134) (.tmp 138) rfl rfl w5.heap.size 1 rfl (OutR.nil _ _) (Bx.new w5 81 #[.int .i64 m, .int .i64 te]) ?e1cx ?e2cx ?e3cx)
                    case e1cx => simp
                    case e2cx => have := hsz5; simp; omega
                    intro v6 w6 ho6 hb6
                    have hbl6 := hb6 _ _ (Nat.le_refl _) (bnew hbl5)
                    clear hb6
                    go_wp2_with fail
                    go_roundw
                    case rel => exact ⟨k + 1, by omega, by go_num, by rw [Hst.out]; exact ho6, hbl6⟩
                    case measure => simp [intOf]; omega
                  · obtain ⟨N, hN⟩ : ∃ N, N = L.length := ⟨_, rfl⟩
                    rw [← hN] at hout2 hrl ⊢
                    have HN := Lib.hid hN
                    have hown : w5.ownsRow v9.heap.size 81 2 (.slice (some ⟨g, 0, none⟩) N cap) N (rgC L) := by have h0 := hout2; unfold OutR at h0; rw [← hN] at h0; exact h0
                    have hout3 := hout2
                    clear hN hout5 hout2
                    by_cases hN0 : N = 0
                    · have hst : rngs M (alike2 ea eb) (k + 1) = L ++ [(m, te)] := by rw [Hnext.out]; unfold stepR; rw [if_neg (by simp), if_neg (by rw [← HN.out]; omega)]
                      have Hst := Lib.hid hst
                      clear hst Hnext
                      subst hN0
                      go_upto_region 34 with fail
                      go_wp2_with (at_builtin; refine rg_append (B := v9.heap.size) (m := m) (te := te) rfl (.tmp 134) (.tmp 138) rfl rfl w5.heap.size 1 rfl (hout3.below (below_eq rfl)) (Bx.new w5 81 #[.int .i64 m, .int .i64 te]) ?e1cy ?e2cy ?e3cy)
                      case e1cy => rw [← HN.out]; omega
                      case e2cy => have := hsz5; simp; omega
                      intro v6 w6 ho6 hb6
                      have hbl6 := hb6 _ _ (Nat.le_refl _) (bnew hbl5)
                      clear hb6
                      go_wp2_with fail
                      go_roundw
                      case rel => exact ⟨k + 1, by omega, by go_num, by rw [Hst.out]; exact ho6, hbl6⟩
                      case measure => simp [intOf]; omega
                    · obtain ⟨n1, hn1⟩ : ∃ n1, N = n1 + 1 := ⟨N - 1, by omega⟩
                      have hn2 : (N : Int) - 1 = (n1 : Int) := by omega
                      have hn3 : (n1 : Int) < (N : Int) := by omega
                      have hcl : w5.cell? ⟨g, n1 * 2 + 1, none⟩ = some (.int .i64 (L.getD n1 default).2) := by
                        rw [World.ownsRow.cellAt hown (n1 * 2 + 1) (by omega)]
                        exact rgC_get (by rw [← HN.out]; omega)
                      have hfz : w5.frozen? ⟨g, n1 * 2 + 1, none⟩ = false := World.ownsRow.frozenAt hown _
                      have hst := Hnext.out
                      unfold stepR at hst
                      rw [if_neg (by simp), ← HN.out, show N - 1 = n1 by omega] at hst
                      have hset : 0 < N → OutR v9.heap.size (w5.setCell ⟨g, n1 * 2 + 1, none⟩ (.int .i64 te)) (.slice (some ⟨g, 0, none⟩) N cap) (L.set n1 ((L.getD n1 default).1, te)) := fun _ => by
                        have := (World.ownsRow.stored hown (n1 * 2 + 1) (.int .i64 te)).1
                        rw [rgC_set (by rw [← HN.out]; omega)] at this
                        unfold OutR
                        rw [List.length_set, ← HN.out]
                        exact this
                      have Hset := Lib.hid hset
                      clear hset
                      generalize (L.getD n1 default).2 = tl at hcl hst
                      have Hn1 := Lib.hid hn1
                      clear hn1
                      by_cases htm : tl = m
                      · rw [if_pos ⟨by omega, htm⟩] at hst
                        have ht : (tl == m) = true := by simpa using htm
                        have Hst := Lib.hid hst
                        clear hst Hnext htm
                        go_wp2_with fail
                        go_roundw
                        case rel => exact ⟨k + 1, by omega, by go_num, by rw [Hst.out]; exact Hset.out (by omega), bput hgB2 hbl5⟩
                        case measure => simp [intOf]; omega
                      · rw [if_neg (fun h => htm h.2)] at hst
                        have ht : (tl == m) = false := by simpa using htm
                        have Hst := Lib.hid hst
                        clear hst Hnext htm Hset
                        go_upto_region 34 with fail
                        go_wp2_with (at_builtin; refine rg_append (B := v9.heap.size) (m := m) (te := te) rfl (.tmp 134) (.tmp 138) rfl rfl w5.heap.size 1 rfl (hout3.below (below_eq rfl)) (Bx.new w5 81 #[.int .i64 m, .int .i64 te]) ?e1cz ?e2cz ?e3cz)
                        case e1cz => rw [← HN.out]; omega
                        case e2cz => have := hsz5; simp; omega
                        intro v6 w6 ho6 hb6
                        have hbl6 := hb6 _ _ (Nat.le_refl _) (bnew hbl5)
                        clear hb6
                        go_wp2_with fail
                        go_roundw
                        case rel => exact ⟨k + 1, by omega, by go_num, by rw [Hst.out]; exact ho6, hbl6⟩
                        case measure => simp [intOf]; omega
            · have ek : decide ((k : Int) + 1 < (n : Int)) = false := decide_eq_false (by omega)
              rw [show k = n - 1 by omega, ← Hcm.out] at hout
              have Hres := Lib.hid (own_mono hout hWv)
              clear hout
              go_wp2_with fail
              go_ret2
              exact ⟨_, rfl, Hres.out, B⟩
end Go.Proofs.YtemlabmmafcapaaGreatDoor
