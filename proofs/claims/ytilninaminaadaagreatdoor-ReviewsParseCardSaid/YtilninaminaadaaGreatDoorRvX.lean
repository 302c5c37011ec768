/- dyelaw1.said: Add, and what is asked. (printed by gen_rvx.py) -/
import Derived.Test.YtilninaminaadaaGreatDoorRvW
namespace Go.Proofs.YtilninaminaadaaGreatDoor
open Go.RowKit

theorem str_self (a : ByteArray) : (a.toList == a.toList) = true := by rw [str_beq]; simp
theorem notesQ_small {σ : Rv} (wf : Wf σ) (s : ByteArray) (o : Bool) : (notesQ σ s o).length ≤ 100000 ∧ ∀ k, k < (notesQ σ s o).length → (qAt (notesQ σ s o) k).2.reps.length ≤ 1000 := by
  have hlen := wf.len
  refine ⟨?_, fun k hk => ?_⟩
  · have h1 : (pick s o (numbered σ.notes)).length ≤ (numbered σ.notes).length := List.length_filter_le _ _
    rw [numbered_len] at h1
    show (pick s o (numbered σ.notes)).length ≤ 100000
    omega
  · have hm : qAt (notesQ σ s o) k ∈ notesQ σ s o := by
      unfold qAt
      rw [List.getD_eq_getElem?_getD, List.getElem?_eq_getElem hk]
      exact List.getElem_mem hk
    have h2 : qAt (notesQ σ s o) k ∈ numbered σ.notes := (List.mem_filter.1 hm).1
    unfold numbered at h2
    obtain ⟨i, hi, e⟩ := List.mem_map.1 h2
    rw [← e]
    have := (wf.notes _ (nAt_mem (List.mem_range.1 hi))).reps.1
    show (nAt σ.notes i).reps.length ≤ 1000
    omega
set_option maxRecDepth 100000 in
set_option maxHeartbeats 16000000 in
theorem said_Add (B : Nat) (Q : Nat → Prop) (pv pr : Nat) (σ : Rv) (sn sf : Int) (ss sa st : ByteArray) (hts : st.size ≤ 9223372036854775807) (W : World) (h : PairH B Q W pv pr σ σ) (wf : Wf σ) :
    Calls Tryz.prog 8 #[.pointer (some ⟨pv, 0, none⟩), .pointer (some ⟨pr, 0, none⟩), .agg #[.int .i64 0, .int .i64 sn, .int .i64 sf, .string ss, .string sa, .string st]] W fun e w' => e = .returned (.bool true) ∧ PairH B Q w' pv pr (addN σ ss sf sa st) (addN σ ss sf sa st) ∧ Stay B Q W w' := by
  go_enter Tryz.func8, Tryz.ntmps8
  go_upto_region 1 with fail
  refine name_world ?_
  intro w0 hw0
  have x5 : Bx w0 W.heap.size 29 #[.int .i64 0, .int .i64 sn, .int .i64 sf, .string ss, .string sa, .string st] := by rw [hw0]; exact Bx.new _ _ _
  have H : PairH B (fun b => Q b ∨ b = W.heap.size) w0 pv pr σ σ := by rw [hw0]; exact h.new _
  have S0 : Stay B Q W w0 := by rw [hw0]; exact (Stay.refl _ _ _).call (bnew (Below.refl _ _)) h.base h.lt
  clear hw0 h
  generalize W.heap.size = p5 at *
  have HH := Lib.hid H
  have HS := Lib.hid S0
  clear H S0
  obtain ⟨q5, f5, l5⟩ := x5.all
  go_wp2_with fail
  refine (HH.out.goV (r := .tuple #[.int .i64 (if addE σ ss sf sa st = 0 then (σ.notes.length : Int) + 1 else 0), .int .i64 (addE σ ss sf sa st)]) (σ' := addN σ ss sf sa st) (fun F vn m rv hv => conform_Add pv σ F vn m rv ss sf sa st w0 hv wf)).mono ?_
  rintro e w1 ⟨rfl, hP, hS⟩
  have x5b := hS.bx x5 (.inr rfl)
  clear q5 f5 l5 x5
  obtain ⟨q5, f5, l5⟩ := x5b.all
  obtain ⟨r1, hr1⟩ : ∃ r, r = (if addE σ ss sf sa st = 0 then (σ.notes.length : Int) + 1 else 0) := ⟨_, rfl⟩
  obtain ⟨r2, hr2⟩ : ∃ r, r = addE σ ss sf sa st := ⟨_, rfl⟩
  have HR := Lib.hid (hP.goR (r := .tuple #[.int .i64 (if addE σ ss sf sa st = 0 then (σ.notes.length : Int) + 1 else 0), .int .i64 (addE σ ss sf sa st)]) (τ' := addN σ ss sf sa st) (fun F vn vb va m rv hr => ref_Add pr σ F vn vb va m rv ss sf sa st hts w1 hr wf))
  have hS1 := Lib.hid hS
  clear hP hS
  rw [← hr1, ← hr2] at HR ⊢
  clear hr1 hr2
  go_wp2_with fail
  refine HR.out.mono ?_
  rintro e w2 ⟨rfl, hP2, hS2⟩
  go_wp2_with fail
  go_ret
  refine ⟨by first | rfl | simp, hP2.less (fun b e => .inl e), ?_⟩
  have hT := hS1.out.trans hS2
  exact ⟨HS.out.1.trans hT.1, fun b e => (hT.2 b (.inl e)).trans (HS.out.2 b e)⟩

set_option maxRecDepth 100000 in
set_option maxHeartbeats 16000000 in
theorem said_Else (B : Nat) (Q : Nat → Prop) (pv pr : Nat) (σ : Rv) (sn sf : Int) (ss sa st : ByteArray) (hts : st.size ≤ 9223372036854775807) (W : World) (h : PairH B Q W pv pr σ σ) (wf : Wf σ) (hss : ss.size ≤ 9223372036854775807) (sk : Int) (hk : sk ≠ 0 ∧ sk ≠ 1 ∧ sk ≠ 2 ∧ sk ≠ 3 ∧ sk ≠ 4) :
    Calls Tryz.prog 8 #[.pointer (some ⟨pv, 0, none⟩), .pointer (some ⟨pr, 0, none⟩), .agg #[.int .i64 sk, .int .i64 sn, .int .i64 sf, .string ss, .string sa, .string st]] W fun e w' => e = .returned (.bool true) ∧ PairH B Q w' pv pr σ σ ∧ Stay B Q W w' := by
  obtain ⟨k0, k1, k2, k3, k4⟩ := hk
  go_enter Tryz.func8, Tryz.ntmps8
  go_upto_region 1 with fail
  refine name_world ?_
  intro w0 hw0
  have x5 : Bx w0 W.heap.size 29 #[.int .i64 sk, .int .i64 sn, .int .i64 sf, .string ss, .string sa, .string st] := by rw [hw0]; exact Bx.new _ _ _
  have H : PairH B (fun b => Q b ∨ b = W.heap.size) w0 pv pr σ σ := by rw [hw0]; exact h.new _
  have S0 : Stay B Q W w0 := by rw [hw0]; exact (Stay.refl _ _ _).call (bnew (Below.refl _ _)) h.base h.lt
  clear hw0 h
  generalize W.heap.size = p5 at *
  have HH := Lib.hid H
  have HS := Lib.hid S0
  clear H S0
  obtain ⟨q5, f5, l5⟩ := x5.all
  obtain ⟨Fv, vn, m, rv, Fr, vn', vb, va, m', rv', hV, hR, _, _, _⟩ := HH.out.ex
  have KA : Hid (∀ w, Below w0.heap.size w0 w → Calls Tryz.prog 27 #[.pointer (some ⟨pv, 0, none⟩), .string ss] w fun e w' => e = .returned (.tuple #[.string ((getA σ.appr ss).getD ⟨#[]⟩), .bool (getA σ.appr ss).isSome]) ∧ Below w.heap.size w w') := Lib.hid (fun w hb => conform_Approved pv σ Fv vn m rv ss hss w (hV.keep hb))
  have KB : Hid (∀ w, Below w0.heap.size w0 w → Calls Tryz.prog 28 #[.pointer (some ⟨pr, 0, none⟩), .string ss] w fun e w' => e = .returned (.tuple #[.string ((getA σ.appr ss).getD ⟨#[]⟩), .bool (getA σ.appr ss).isSome]) ∧ Below w.heap.size w w') := Lib.hid (fun w hb => ref_Approved pr σ Fr vn' vb va m' rv' ss hss w (hR.keep hb))
  have KV1 := Lib.hid (fun w (hb : Below w0.heap.size w0 w) => conform_Notes pv σ Fv vn m rv ss (bits .and .i64 sn 1 == 0) w (hV.keep hb) wf)
  have KV2 := Lib.hid (fun w (hb : Below w0.heap.size w0 w) => conform_Notes pv σ Fv vn m rv ⟨#[]⟩ false w (hV.keep hb) wf)
  have KR1 := Lib.hid (fun w (hb : Below w0.heap.size w0 w) => ref_Notes pr σ Fr vn' vb va m' rv' ss (bits .and .i64 sn 1 == 0) w (hR.keep hb) wf)
  have KR2 := Lib.hid (fun w (hb : Below w0.heap.size w0 w) => ref_Notes pr σ Fr vn' vb va m' rv' ⟨#[]⟩ false w (hR.keep hb) wf)
  have KS : Hid (∀ (L : List (Nat × Nt)) w va vb, (L = notesQ σ ss (bits .and .i64 sn 1 == 0) ∨ L = notesQ σ ⟨#[]⟩ false) → NtsV w va L → NtsV w vb L → Calls Tryz.prog 12 #[va, vb] w fun e w' => e = .returned (.bool true) ∧ Below w.heap.size w w') := Lib.hid (fun L w va vb hL ha hb => by
    obtain ⟨s, o, hL⟩ : ∃ s o, L = notesQ σ s o := by rcases hL with h | h <;> exact ⟨_, _, h⟩
    subst hL
    have h1 := notesQ_small wf s o
    exact same_notes va vb _ w h1.1 h1.2 ha hb)
  obtain ⟨an, hAn⟩ : ∃ x, bits .and .i64 sn 1 = x := ⟨_, rfl⟩
  rw [hAn] at KV1 KR1 KS
  generalize (getA σ.appr ss).getD ⟨#[]⟩ = g1 at *
  generalize (getA σ.appr ss).isSome = g2 at *
  clear hV hR
  go_wp2_with fail
  refine (KA.out w0 (Below.refl _ _)).mono ?_
  rintro e w1 ⟨rfl, hb1⟩
  have x5b := x5.keep hb1
  clear q5 f5 l5
  obtain ⟨q5, f5, l5⟩ := x5b.all
  go_wp2_with fail
  refine (KB.out w1 hb1).mono ?_
  rintro e w2 ⟨rfl, hb2⟩
  have B2 : Below w0.heap.size w0 w2 := bcall hb1 hb2
  clear q5 f5 l5 KA KB x5b
  obtain ⟨q5, f5, l5⟩ := x5.all
  go_upto_region 16 with fail
  refine name_world ?_
  intro w3 hw3
  have B3 : Below w0.heap.size w0 w3 := by rw [hw3]; exact B2
  clear hw3
  have hself := str_self g1
  refine wp_region_grd 34 (fun _ => false) (fun q u w' => if q = 16 then NtsV w' u (notesQ σ ss (an == 0)) else if q = 24 then NtsV w' u (notesQ σ ss (an == 0)) else if q = 29 then NtsV w' u (notesQ σ ⟨#[]⟩ false) else if q = 31 then NtsV w' u (notesQ σ ⟨#[]⟩ false) else u = [.string g1, .string g1, .bool true, .bool true, .bool g2, .bool g2, .bool true, .bool true, .bool true, .pointer (some ⟨pv, 0, none⟩), .pointer (some ⟨p5, 3, none⟩), .string ss, .pointer (some ⟨p5, 1, none⟩), .int .i64 sn, .int .i64 an, .bool (an == 0), undef, .pointer (some ⟨pr, 0, none⟩), .pointer (some ⟨p5, 3, none⟩), .string ss, .pointer (some ⟨p5, 1, none⟩), .int .i64 sn, .int .i64 an, .bool (an == 0), undef, .bool true, .bool true, .bool true, .pointer (some ⟨pv, 0, none⟩), undef, .pointer (some ⟨pr, 0, none⟩), undef, .bool true, .bool true].getD q undef) (fun _ => false) (fun w' => Below w0.heap.size w0 w') (by kernel_rfl) (by kernel_rfl) (fun _ _ _ _ _ h => h)
    (fun _ _ h e => e.trans (h.mono e.size)) (fun t u a' b' hb h => ?_) B3.drew ?_ ?_ ?_
  · by_cases t1 : t = 16
    · subst t1; simp only [if_true] at h ⊢; exact NtsV.keep h hb
    · by_cases t2 : t = 24
      · subst t2; exact NtsV.keep h hb
      · by_cases t3 : t = 29
        · subst t3; exact NtsV.keep h hb
        · by_cases t4 : t = 31
          · subst t4; exact NtsV.keep h hb
          · rw [if_neg t1, if_neg t2, if_neg t3, if_neg t4] at h ⊢; exact h
  · intro t op ht hlt hop
    clear hlt
    rcases (by omega : t = 0 ∨ t = 1 ∨ t = 2 ∨ t = 3 ∨ t = 4 ∨ t = 5 ∨ t = 6 ∨ t = 7 ∨ t = 8 ∨ t = 9 ∨ t = 10 ∨ t = 11 ∨ t = 12 ∨ t = 13 ∨ t = 14 ∨ t = 15 ∨ t = 16 ∨ t = 17 ∨ t = 18 ∨ t = 19 ∨ t = 20 ∨ t = 21 ∨ t = 22 ∨ t = 23 ∨ t = 24 ∨ t = 25 ∨ t = 26 ∨ t = 27 ∨ t = 28 ∨ t = 29 ∨ t = 30 ∨ t = 31 ∨ t = 32 ∨ t = 33) with rfl | rfl | rfl | rfl | rfl | rfl | rfl | rfl | rfl | rfl | rfl | rfl | rfl | rfl | rfl | rfl | rfl | rfl | rfl | rfl | rfl | rfl | rfl | rfl | rfl | rfl | rfl | rfl | rfl | rfl | rfl | rfl | rfl | rfl
    all_goals simp only [List.getElem?_cons_zero, List.getElem?_cons_succ, Option.some.injEq] at hop
    all_goals subst hop
    all_goals intro a wx hE hag hdep
    · refine grd_none rfl ?_
      have e0 := slot_eq (hag 11 rfl)
      exact rel_pure _ rfl rfl (by simp [go_sem, e0])
    · refine grd_none rfl ?_
      have e0 := slot_eq (hag 13 rfl)
      exact rel_pure _ rfl rfl (by simp [go_sem, e0])
    · refine grd_none rfl ?_
      have e0 := slot_eq (hdep ⟨0, .data⟩ (by simp) rfl)
      have e1 := slot_eq (hdep ⟨1, .data⟩ (by simp) rfl)
      exact rel_pure _ rfl rfl (by simp [go_sem, e0, e1, hself])
    · refine grd_none rfl ?_
      have e0 := slot_eq (hdep ⟨2, .data⟩ (by simp) rfl)
      exact rel_pure _ rfl rfl (by simp [go_sem, e0])
    · refine grd_yes (j := 3) (b := true) rfl (hdep ⟨3, .guard⟩ (by simp) rfl) ?_
      have e0 := slot_eq (hag 12 rfl)
      exact rel_pure _ rfl rfl (by simp [go_sem, e0])
    · refine grd_yes (j := 3) (b := true) rfl (hdep ⟨3, .guard⟩ (by simp) rfl) ?_
      have e0 := slot_eq (hag 14 rfl)
      exact rel_pure _ rfl rfl (by simp [go_sem, e0])
    · refine grd_yes (j := 3) (b := true) rfl (hdep ⟨3, .guard⟩ (by simp) rfl) ?_
      have e0 := slot_eq (hdep ⟨4, .data⟩ (by simp) rfl)
      have e1 := slot_eq (hdep ⟨5, .data⟩ (by simp) rfl)
      exact rel_pure _ rfl rfl (by simp [go_sem, e0, e1])
    · refine grd_none rfl ?_
      have e0 := slot_eq (hdep ⟨3, .data⟩ (by simp) rfl)
      have e1 := slot_eq (hdep ⟨6, .data⟩ (by simp) rfl)
      exact rel_pure _ rfl rfl (by simp [go_sem, e0, e1])
    · refine grd_none rfl ?_
      have e0 := slot_eq (hdep ⟨7, .data⟩ (by simp) rfl)
      exact rel_pure _ rfl rfl (by simp [go_sem, e0])
    · refine grd_yes (j := 8) (b := true) rfl (hdep ⟨8, .guard⟩ (by simp) rfl) ?_
      have e0 := slot_eq (hag 0 rfl)
      exact rel_pure _ rfl rfl (by simp [go_sem, e0])
    · refine grd_yes (j := 8) (b := true) rfl (hdep ⟨8, .guard⟩ (by simp) rfl) ?_
      have e0 := slot_eq (hag 5 rfl)
      exact rel_pure _ rfl rfl (by simp [go_sem, e0])
    · refine grd_yes (j := 8) (b := true) rfl (hdep ⟨8, .guard⟩ (by simp) rfl) ?_
      have e0 := slot_eq (hdep ⟨10, .data⟩ (by simp) rfl)
      have hq := (hE.cell (p := ⟨p5, 3, none⟩) l5).trans (q5 3)
      exact rel_pure _ rfl rfl (by simp [go_sem, e0, hq])
    · refine grd_yes (j := 8) (b := true) rfl (hdep ⟨8, .guard⟩ (by simp) rfl) ?_
      have e0 := slot_eq (hag 5 rfl)
      exact rel_pure _ rfl rfl (by simp [go_sem, e0])
    · refine grd_yes (j := 8) (b := true) rfl (hdep ⟨8, .guard⟩ (by simp) rfl) ?_
      have e0 := slot_eq (hdep ⟨12, .data⟩ (by simp) rfl)
      have hq := (hE.cell (p := ⟨p5, 1, none⟩) l5).trans (q5 1)
      exact rel_pure _ rfl rfl (by simp [go_sem, e0, hq])
    · refine grd_yes (j := 8) (b := true) rfl (hdep ⟨8, .guard⟩ (by simp) rfl) ?_
      have e0 := slot_eq (hdep ⟨13, .data⟩ (by simp) rfl)
      exact rel_pure _ rfl rfl (by simp [go_sem, e0, hAn])
    · refine grd_yes (j := 8) (b := true) rfl (hdep ⟨8, .guard⟩ (by simp) rfl) ?_
      have e0 := slot_eq (hdep ⟨14, .data⟩ (by simp) rfl)
      exact rel_pure _ rfl rfl (by simp [go_sem, e0])
    · refine grd_yes (j := 8) (b := true) rfl (hdep ⟨8, .guard⟩ (by simp) rfl) ?_
      have e0 := slot_eq (hdep ⟨9, .data⟩ (by simp) rfl)
      have e1 := slot_eq (hdep ⟨11, .data⟩ (by simp) rfl)
      have e2 := slot_eq (hdep ⟨15, .data⟩ (by simp) rfl)
      refine rel_call (f := 13) (args := #[.pointer (some ⟨pv, 0, none⟩), .string ss, .bool (an == 0)]) (run_go_call Tryz.func13 (by kernel_rfl) (by kernel_rfl) _ _ _ _ _ _ _ _ _ _ (by simp [Act.eval, e0, e1, e2])) rfl ?_
      refine (KV1.out wx hE).mono ?_
      rintro e w' ⟨v, rfl, hv, hb⟩
      exact ⟨v, rfl, hv, hb⟩
    · refine grd_yes (j := 8) (b := true) rfl (hdep ⟨8, .guard⟩ (by simp) rfl) ?_
      have e0 := slot_eq (hag 1 rfl)
      exact rel_pure _ rfl rfl (by simp [go_sem, e0])
    · refine grd_yes (j := 8) (b := true) rfl (hdep ⟨8, .guard⟩ (by simp) rfl) ?_
      have e0 := slot_eq (hag 5 rfl)
      exact rel_pure _ rfl rfl (by simp [go_sem, e0])
    · refine grd_yes (j := 8) (b := true) rfl (hdep ⟨8, .guard⟩ (by simp) rfl) ?_
      have e0 := slot_eq (hdep ⟨18, .data⟩ (by simp) rfl)
      have hq := (hE.cell (p := ⟨p5, 3, none⟩) l5).trans (q5 3)
      exact rel_pure _ rfl rfl (by simp [go_sem, e0, hq])
    · refine grd_yes (j := 8) (b := true) rfl (hdep ⟨8, .guard⟩ (by simp) rfl) ?_
      have e0 := slot_eq (hag 5 rfl)
      exact rel_pure _ rfl rfl (by simp [go_sem, e0])
    · refine grd_yes (j := 8) (b := true) rfl (hdep ⟨8, .guard⟩ (by simp) rfl) ?_
      have e0 := slot_eq (hdep ⟨20, .data⟩ (by simp) rfl)
      have hq := (hE.cell (p := ⟨p5, 1, none⟩) l5).trans (q5 1)
      exact rel_pure _ rfl rfl (by simp [go_sem, e0, hq])
    · refine grd_yes (j := 8) (b := true) rfl (hdep ⟨8, .guard⟩ (by simp) rfl) ?_
      have e0 := slot_eq (hdep ⟨21, .data⟩ (by simp) rfl)
      exact rel_pure _ rfl rfl (by simp [go_sem, e0, hAn])
    · refine grd_yes (j := 8) (b := true) rfl (hdep ⟨8, .guard⟩ (by simp) rfl) ?_
      have e0 := slot_eq (hdep ⟨22, .data⟩ (by simp) rfl)
      exact rel_pure _ rfl rfl (by simp [go_sem, e0])
    · refine grd_yes (j := 8) (b := true) rfl (hdep ⟨8, .guard⟩ (by simp) rfl) ?_
      have e0 := slot_eq (hdep ⟨17, .data⟩ (by simp) rfl)
      have e1 := slot_eq (hdep ⟨19, .data⟩ (by simp) rfl)
      have e2 := slot_eq (hdep ⟨23, .data⟩ (by simp) rfl)
      refine rel_call (f := 14) (args := #[.pointer (some ⟨pr, 0, none⟩), .string ss, .bool (an == 0)]) (run_go_call Tryz.func14 (by kernel_rfl) (by kernel_rfl) _ _ _ _ _ _ _ _ _ _ (by simp [Act.eval, e0, e1, e2])) rfl ?_
      refine (KR1.out wx hE).mono ?_
      rintro e w' ⟨v, rfl, hv, hb⟩
      exact ⟨v, rfl, hv, hb⟩
    · refine grd_yes (j := 8) (b := true) rfl (hdep ⟨8, .guard⟩ (by simp) rfl) ?_
      obtain ⟨va, ea, hva⟩ : ∃ u, slotOf _ a 16 = u ∧ NtsV wx u (notesQ σ ss (an == 0)) := ⟨_, rfl, hdep ⟨16, .data⟩ (by simp) rfl⟩
      obtain ⟨vb, eb, hvb⟩ : ∃ u, slotOf _ a 24 = u ∧ NtsV wx u (notesQ σ ss (an == 0)) := ⟨_, rfl, hdep ⟨24, .data⟩ (by simp) rfl⟩
      have e0 := slot_eq ea
      have e1 := slot_eq eb
      refine rel_call (f := 12) (args := #[va, vb]) (run_go_call Tryz.func12 (by kernel_rfl) (by kernel_rfl) _ _ _ _ _ _ _ _ _ _ (by simp [Act.eval, e0, e1])) rfl ?_
      refine (KS.out _ wx va vb (by first | exact .inl rfl | exact .inr rfl) hva hvb).mono ?_
      rintro e w' ⟨rfl, hb⟩
      exact ⟨_, rfl, rfl, hb⟩
    · refine grd_none rfl ?_
      have e0 := slot_eq (hdep ⟨8, .data⟩ (by simp) rfl)
      have e1 := slot_eq (hdep ⟨25, .data⟩ (by simp) rfl)
      exact rel_pure _ rfl rfl (by simp [go_sem, e0, e1])
    · refine grd_none rfl ?_
      have e0 := slot_eq (hdep ⟨26, .data⟩ (by simp) rfl)
      exact rel_pure _ rfl rfl (by simp [go_sem, e0])
    · refine grd_yes (j := 27) (b := true) rfl (hdep ⟨27, .guard⟩ (by simp) rfl) ?_
      have e0 := slot_eq (hag 0 rfl)
      exact rel_pure _ rfl rfl (by simp [go_sem, e0])
    · refine grd_yes (j := 27) (b := true) rfl (hdep ⟨27, .guard⟩ (by simp) rfl) ?_
      have e0 := slot_eq (hdep ⟨28, .data⟩ (by simp) rfl)
      refine rel_call (f := 13) (args := #[.pointer (some ⟨pv, 0, none⟩), .string ⟨#[]⟩, .bool false]) (run_go_call Tryz.func13 (by kernel_rfl) (by kernel_rfl) _ _ _ _ _ _ _ _ _ _ (by simp [Act.eval, e0])) rfl ?_
      refine (KV2.out wx hE).mono ?_
      rintro e w' ⟨v, rfl, hv, hb⟩
      exact ⟨v, rfl, hv, hb⟩
    · refine grd_yes (j := 27) (b := true) rfl (hdep ⟨27, .guard⟩ (by simp) rfl) ?_
      have e0 := slot_eq (hag 1 rfl)
      exact rel_pure _ rfl rfl (by simp [go_sem, e0])
    · refine grd_yes (j := 27) (b := true) rfl (hdep ⟨27, .guard⟩ (by simp) rfl) ?_
      have e0 := slot_eq (hdep ⟨30, .data⟩ (by simp) rfl)
      refine rel_call (f := 14) (args := #[.pointer (some ⟨pr, 0, none⟩), .string ⟨#[]⟩, .bool false]) (run_go_call Tryz.func14 (by kernel_rfl) (by kernel_rfl) _ _ _ _ _ _ _ _ _ _ (by simp [Act.eval, e0])) rfl ?_
      refine (KR2.out wx hE).mono ?_
      rintro e w' ⟨v, rfl, hv, hb⟩
      exact ⟨v, rfl, hv, hb⟩
    · refine grd_yes (j := 27) (b := true) rfl (hdep ⟨27, .guard⟩ (by simp) rfl) ?_
      obtain ⟨va, ea, hva⟩ : ∃ u, slotOf _ a 29 = u ∧ NtsV wx u (notesQ σ ⟨#[]⟩ false) := ⟨_, rfl, hdep ⟨29, .data⟩ (by simp) rfl⟩
      obtain ⟨vb, eb, hvb⟩ : ∃ u, slotOf _ a 31 = u ∧ NtsV wx u (notesQ σ ⟨#[]⟩ false) := ⟨_, rfl, hdep ⟨31, .data⟩ (by simp) rfl⟩
      have e0 := slot_eq ea
      have e1 := slot_eq eb
      refine rel_call (f := 12) (args := #[va, vb]) (run_go_call Tryz.func12 (by kernel_rfl) (by kernel_rfl) _ _ _ _ _ _ _ _ _ _ (by simp [Act.eval, e0, e1])) rfl ?_
      refine (KS.out _ wx va vb (by first | exact .inl rfl | exact .inr rfl) hva hvb).mono ?_
      rintro e w' ⟨rfl, hb⟩
      exact ⟨_, rfl, rfl, hb⟩
    · refine grd_none rfl ?_
      have e0 := slot_eq (hdep ⟨27, .data⟩ (by simp) rfl)
      have e1 := slot_eq (hdep ⟨32, .data⟩ (by simp) rfl)
      exact rel_pure _ rfl rfl (by simp [go_sem, e0, e1])
  · intro t op ht hlt; cases hlt
  · intro vs w4 hE hvs _
    have k33 : vs 33 = .bool true := hvs 33 (by omega)
    simp only [List.drop_succ_cons, List.drop_zero, putAll, dstAt, List.getElem?_toArray, List.getElem?_cons_zero, List.getElem?_cons_succ, Option.bind_some, Act.put, List.setIfInBounds_toArray, List.set_cons_zero, List.set_cons_succ, k33]
    go_wp2_with fail
    go_ret
    refine ⟨by first | rfl | simp, (HH.out.keep hE).less (fun b e => .inl e), ?_⟩
    exact ⟨HS.out.1.trans (hE.mono HH.out.base), fun b e => (hE.block b (HH.out.lt b (.inl e))).trans (HS.out.2 b e)⟩
end Go.Proofs.YtilninaminaadaaGreatDoor
