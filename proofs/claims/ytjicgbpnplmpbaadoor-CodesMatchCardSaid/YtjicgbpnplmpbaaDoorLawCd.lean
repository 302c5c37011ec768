/- CodesMatch, walked. (printed by gen_lawcd.py) -/
import Derived.Test.YtjicgbpnplmpbaaDoorCdG
import Derived.Test.YtjicgbpnplmpbaaDoorCdD
namespace Go.Proofs.YtjicgbpnplmpbaaDoor
open Go.RowKit

theorem code_pack (r n : Int) (hr : rateB r = true) (n1 : -9223372036854775808 ≤ n) (n2 : n ≤ 9223372036854775807) : ∃ ch cm cs cf k : Int,
    Hid (∀ W, Calls Tryd.prog 32 #[.int .i64 r, .int .i64 n] W fun e w' => e = .returned (.tuple #[.agg #[.int .i64 ch, .int .i64 cm, .int .i64 cs, .int .i64 cf], .int .i64 0]) ∧ Below W.heap.size W w') ∧
    Hid (∀ W, Calls Tryd.prog 33 #[.int .i64 r, .int .i64 n] W fun e w' => e = .returned (.agg #[.int .i64 ch, .int .i64 cm, .int .i64 cs, .int .i64 cf]) ∧ Below W.heap.size W w') ∧
    Hid (∀ W, Calls Tryd.prog 32 #[.int .i64 r, .int .i64 k] W fun e w' => e = .returned (.tuple #[.agg #[.int .i64 ch, .int .i64 cm, .int .i64 cs, .int .i64 cf], .int .i64 0]) ∧ Below W.heap.size W w') ∧
    Hid (codeE r ch cm cs cf = 0) ∧ Hid (framesN r ch cm cs cf = k) ∧ Hid (0 ≤ n → n < 2000000 → k = n) := by
  obtain ⟨k1, k2⟩ := code_of_right (n := n) hr
  obtain ⟨a1, a2, a3, a4⟩ := code_of_again (r := r) (n := n)
  refine ⟨_, _, _, _, n % dayN r, Lib.hid fun W => conform_CodeOf_ok r n W hr, Lib.hid fun W => ref_CodeOf r n W hr n1 n2, Lib.hid fun W => ?_, Lib.hid k1, Lib.hid k2, Lib.hid fun h0 h1 => back_is hr h0 h1⟩
  have := conform_CodeOf_ok r (n % dayN r) W hr
  rw [a1, a2, a3, a4] at this
  exact this

set_option maxRecDepth 100000 in
set_option maxHeartbeats 16000000 in
theorem law_Codes (r n h m s f : Int) (text : ByteArray) (W : World) (hn1 : -9223372036854775808 ≤ n) (hn2 : n ≤ 9223372036854775807) :
    Calls Tryd.prog 6 #[.int .i64 r, .int .i64 n, .agg #[.int .i64 h, .int .i64 m, .int .i64 s, .int .i64 f], .string text] W fun e w' => e = .returned (.bool true) ∧ Below W.heap.size W w' := by
  obtain ⟨va, vb, vc, vd, vE, hp⟩ : ∃ va vb vc vd vE, parseC r text = (va, vb, vc, vd, vE) := ⟨_, _, _, _, _, rfl⟩
  have hP := Lib.hid hp
  have hz := Lib.hid (code_zero r)
  clear hp
  by_cases hE : codeE r h m s f = 0
  · obtain ⟨hr0, h0, h1, m0, m1, s0, s1, f0, f1⟩ := code_right hE
    obtain ⟨_, c0, c1⟩ := sec_cntd hr0
    obtain ⟨h, rfl⟩ : ∃ k : Nat, h = k := ⟨h.toNat, by omega⟩
    obtain ⟨m, rfl⟩ : ∃ k : Nat, m = k := ⟨m.toNat, by omega⟩
    obtain ⟨s, rfl⟩ : ∃ k : Nat, s = k := ⟨s.toNat, by omega⟩
    obtain ⟨f, rfl⟩ : ∃ k : Nat, f = k := ⟨f.toNat, by omega⟩
    have h100 : h < 100 := by omega
    have m100 : m < 100 := by omega
    have s100 : s < 100 := by omega
    have f100 : f < 100 := by omega
    have hpp := parse_print hE
    have hF1 := fun W => conform_Frames_ok r h m s f W hE
    have hF2 := fun W => ref_Frames r h m s f W hE
    have hP1 := fun W => conform_PrintCode_ok r h m s f W hE
    have hP2 := fun W => ref_PrintCode r h m s f W h100 m100 s100 f100
    have hQ := fun W => conform_ParseCode r _ W _ _ _ _ _ hpp
    have hC := fun W => ref_CodeError r h m s f W
    rw [hE] at hC
    generalize framesN r h m s f = K at hF1 hF2
    generalize codeB r h m s f = S at hP1 hP2 hQ
    have HF1 := Lib.hid hF1
    have HF2 := Lib.hid hF2
    have HP1 := Lib.hid hP1
    have HP2 := Lib.hid hP2
    have HQ := Lib.hid hQ
    have HC := Lib.hid hC
    have hr := Lib.hid hr0
    have hz1 := hz.out
    rw [if_neg (by rw [hr0]; decide)] at hz1
    obtain ⟨ch, cm, cs, cf, k, K1, K2, K3, K4, K5, K6⟩ := code_pack r n hr0 hn1 hn2
    replace hz := Lib.hid hz1
    clear hz1 hF1 hF2 hP1 hP2 hQ hC hpp hE hr0 hn1 hn2 h0 h1 m0 m1 s0 s1 f0 f1 c0 c1 h100 m100 s100 f100
    go_enter Tryd.func6, Tryd.ntmps6
    go_upto_region 3 with (go_at_call 7; refine (law_landed _).mono ?_; rintro e w' ⟨rfl, rfl⟩)
    refine name_world ?_
    intro v0 hw0
    have x6 : Bx v0 W.heap.size 59 #[.int .i64 (h : Int), .int .i64 (m : Int), .int .i64 (s : Int), .int .i64 (f : Int)] := by rw [hw0]; exact Bx.new _ _ _
    have B : Below W.heap.size W v0 := by rw [hw0]; exact bnew (Below.refl _ W)
    clear hw0
    obtain ⟨qx6, fx6, lx6⟩ := x6.all
    go_wp2_with fail
    refine (HC.out _).mono ?_
    rintro e v1 ⟨rfl, hb⟩
    clear qx6 fx6 lx6
    replace x6 := x6.keep hb
    replace B := bcall B hb
    clear hb
    obtain ⟨qx6, fx6, lx6⟩ := x6.all
    go_wp2_with fail
    refine (HF1.out _).mono ?_
    rintro e v2 ⟨rfl, hb⟩
    clear qx6 fx6 lx6
    replace x6 := x6.keep hb
    replace B := bcall B hb
    clear hb
    obtain ⟨qx6, fx6, lx6⟩ := x6.all
    go_wp2_with fail
    refine (HP1.out _).mono ?_
    rintro e v3 ⟨rfl, hb⟩
    clear qx6 fx6 lx6
    replace x6 := x6.keep hb
    replace B := bcall B hb
    clear hb
    obtain ⟨qx6, fx6, lx6⟩ := x6.all
    go_wp2_with fail
    refine (HQ.out _).mono ?_
    rintro e v4 ⟨rfl, hb⟩
    clear qx6 fx6 lx6
    replace x6 := x6.keep hb
    replace B := bcall B hb
    clear hb
    obtain ⟨qx6, fx6, lx6⟩ := x6.all
    go_upto_region 12 with fail
    refine name_world ?_
    intro v5 hw
    have x14 : Bx v5 v4.heap.size 59 #[.int .i64 (h : Int), .int .i64 (m : Int), .int .i64 (s : Int), .int .i64 (f : Int)] := by rw [hw]; exact Bx.new _ _ _
    have hb : Below v4.heap.size v4 v5 := by rw [hw]; exact bnew (Below.refl _ _)
    clear hw
    clear qx6 fx6 lx6
    replace x6 := x6.keep hb
    replace B := bcall B hb
    clear hb
    generalize v4.heap.size = px14 at *
    obtain ⟨qx6, fx6, lx6⟩ := x6.all
    obtain ⟨qx14, fx14, lx14⟩ := x14.all
    go_wp2_with fail
    refine (HF2.out _).mono ?_
    rintro e v6 ⟨rfl, hb⟩
    clear qx6 fx6 lx6 qx14 fx14 lx14
    replace x6 := x6.keep hb
    replace x14 := x14.keep hb
    replace B := bcall B hb
    clear hb
    obtain ⟨qx6, fx6, lx6⟩ := x6.all
    obtain ⟨qx14, fx14, lx14⟩ := x14.all
    go_wp2_with fail
    refine (HP2.out _).mono ?_
    rintro e v7 ⟨rfl, hb⟩
    clear qx6 fx6 lx6 qx14 fx14 lx14
    replace x6 := x6.keep hb
    replace x14 := x14.keep hb
    replace B := bcall B hb
    clear hb
    obtain ⟨qx6, fx6, lx6⟩ := x6.all
    obtain ⟨qx14, fx14, lx14⟩ := x14.all
    go_wp2_with fail
    refine (conform_ParseCode r text _ va vb vc vd vE hP.out).mono ?_
    rintro e v8 ⟨rfl, hb⟩
    clear qx6 fx6 lx6 qx14 fx14 lx14
    replace x6 := x6.keep hb
    replace x14 := x14.keep hb
    replace B := bcall B hb
    clear hb
    obtain ⟨qx6, fx6, lx6⟩ := x6.all
    obtain ⟨qx14, fx14, lx14⟩ := x14.all
    go_upto_region 15 with fail
    refine name_world ?_
    intro v9 hw
    have x16 : Bx v9 v8.heap.size 59 #[.int .i64 va, .int .i64 vb, .int .i64 vc, .int .i64 vd] := by rw [hw]; exact Bx.new _ _ _
    have hb : Below v8.heap.size v8 v9 := by rw [hw]; exact bnew (Below.refl _ _)
    clear hw
    clear qx6 fx6 lx6 qx14 fx14 lx14
    replace x6 := x6.keep hb
    replace x14 := x14.keep hb
    replace B := bcall B hb
    clear hb
    generalize v8.heap.size = px16 at *
    obtain ⟨qx6, fx6, lx6⟩ := x6.all
    obtain ⟨qx14, fx14, lx14⟩ := x14.all
    obtain ⟨qx16, fx16, lx16⟩ := x16.all
    go_wp2_with fail
    refine (ref_ParseCode r text _ va vb vc vd vE hP.out).mono ?_
    rintro e v10 ⟨rfl, hb⟩
    clear qx6 fx6 lx6 qx14 fx14 lx14 qx16 fx16 lx16
    replace x6 := x6.keep hb
    replace x14 := x14.keep hb
    replace x16 := x16.keep hb
    replace B := bcall B hb
    clear hb
    obtain ⟨qx6, fx6, lx6⟩ := x6.all
    obtain ⟨qx14, fx14, lx14⟩ := x14.all
    obtain ⟨qx16, fx16, lx16⟩ := x16.all
    go_upto_region 16 with fail
    refine name_world ?_
    intro v11 hw
    have x17 : Bx v11 v10.heap.size 59 #[.int .i64 va, .int .i64 vb, .int .i64 vc, .int .i64 vd] := by rw [hw]; exact Bx.new _ _ _
    have hb : Below v10.heap.size v10 v11 := by rw [hw]; exact bnew (Below.refl _ _)
    clear hw
    clear qx6 fx6 lx6 qx14 fx14 lx14 qx16 fx16 lx16
    replace x6 := x6.keep hb
    replace x14 := x14.keep hb
    replace x16 := x16.keep hb
    replace B := bcall B hb
    clear hb
    generalize v10.heap.size = px17 at *
    obtain ⟨qx6, fx6, lx6⟩ := x6.all
    obtain ⟨qx14, fx14, lx14⟩ := x14.all
    obtain ⟨qx16, fx16, lx16⟩ := x16.all
    obtain ⟨qx17, fx17, lx17⟩ := x17.all
    go_wp2_with fail
    refine (K1.out _).mono ?_
    rintro e v12 ⟨rfl, hb⟩
    clear qx6 fx6 lx6 qx14 fx14 lx14 qx16 fx16 lx16 qx17 fx17 lx17
    replace x6 := x6.keep hb
    replace x14 := x14.keep hb
    replace x16 := x16.keep hb
    replace x17 := x17.keep hb
    replace B := bcall B hb
    clear hb
    obtain ⟨qx6, fx6, lx6⟩ := x6.all
    obtain ⟨qx14, fx14, lx14⟩ := x14.all
    obtain ⟨qx16, fx16, lx16⟩ := x16.all
    obtain ⟨qx17, fx17, lx17⟩ := x17.all
    go_upto_region 19 with fail
    refine name_world ?_
    intro v13 hw
    have x18 : Bx v13 v12.heap.size 59 #[.int .i64 ch, .int .i64 cm, .int .i64 cs, .int .i64 cf] := by rw [hw]; exact Bx.new _ _ _
    have hb : Below v12.heap.size v12 v13 := by rw [hw]; exact bnew (Below.refl _ _)
    clear hw
    clear qx6 fx6 lx6 qx14 fx14 lx14 qx16 fx16 lx16 qx17 fx17 lx17
    replace x6 := x6.keep hb
    replace x14 := x14.keep hb
    replace x16 := x16.keep hb
    replace x17 := x17.keep hb
    replace B := bcall B hb
    clear hb
    generalize v12.heap.size = px18 at *
    obtain ⟨qx6, fx6, lx6⟩ := x6.all
    obtain ⟨qx14, fx14, lx14⟩ := x14.all
    obtain ⟨qx16, fx16, lx16⟩ := x16.all
    obtain ⟨qx17, fx17, lx17⟩ := x17.all
    obtain ⟨qx18, fx18, lx18⟩ := x18.all
    go_wp2_with fail
    refine (ref_CodeError r 0 0 0 0 _).mono ?_
    rintro e v14 ⟨rfl, hb⟩
    clear qx6 fx6 lx6 qx14 fx14 lx14 qx16 fx16 lx16 qx17 fx17 lx17 qx18 fx18 lx18
    replace x6 := x6.keep hb
    replace x14 := x14.keep hb
    replace x16 := x16.keep hb
    replace x17 := x17.keep hb
    replace x18 := x18.keep hb
    replace B := bcall B hb
    clear hb
    obtain ⟨qx6, fx6, lx6⟩ := x6.all
    obtain ⟨qx14, fx14, lx14⟩ := x14.all
    obtain ⟨qx16, fx16, lx16⟩ := x16.all
    obtain ⟨qx17, fx17, lx17⟩ := x17.all
    obtain ⟨qx18, fx18, lx18⟩ := x18.all
    rw [hz.out]
    go_upto_region 21 with fail
    clear qx6 fx6 lx6 qx14 fx14 lx14 qx16 fx16 lx16 qx17 fx17 lx17 qx18 fx18 lx18
    refine wp_region_grd 14 (fun _ => false) (fun q u w' => u = [.int .i64 0, .bool false, .bool false, .agg #[.int .i64 ch, .int .i64 cm, .int .i64 cs, .int .i64 cf], .int .i64 r, .int .i64 n, .agg #[.int .i64 ch, .int .i64 cm, .int .i64 cs, .int .i64 cf], .bool false, .bool false, .bool false, .int .i64 r, .agg #[.int .i64 ch, .int .i64 cm, .int .i64 cs, .int .i64 cf], .int .i64 0, .bool false].getD q undef) (fun _ => false) (fun w' => Below v14.heap.size v14 w') (by kernel_rfl) (by kernel_rfl) (fun _ _ _ _ _ h => h)
      (fun _ _ h e => e.trans (h.mono e.size)) (fun t u a' b' hb h => ?_) (Below.refl _ _).drew ?_ ?_ ?_
    · exact h
    · intro t op ht hlt hop
      clear hlt
      rcases (by omega : t = 0 ∨ t = 1 ∨ t = 2 ∨ t = 3 ∨ t = 4 ∨ t = 5 ∨ t = 6 ∨ t = 7 ∨ t = 8 ∨ t = 9 ∨ t = 10 ∨ t = 11 ∨ t = 12 ∨ t = 13) with rfl | rfl | rfl | rfl | rfl | rfl | rfl | rfl | rfl | rfl | rfl | rfl | rfl | rfl
      all_goals simp only [List.getElem?_cons_zero, List.getElem?_cons_succ, Option.some.injEq] at hop
      all_goals subst hop
      all_goals intro a wx hE hag hdep
      · refine grd_none rfl ?_
        have e0 := slot_eq (hag 9 rfl)
        exact rel_pure _ rfl rfl (by simp [go_sem, e0])
      · refine grd_none rfl ?_
        have e0 := slot_eq (hdep ⟨0, .data⟩ (by simp) rfl)
        exact rel_pure _ rfl rfl (by simp [go_sem, e0])
      · refine grd_none rfl ?_
        have e0 := slot_eq (hdep ⟨1, .data⟩ (by simp) rfl)
        exact rel_pure _ rfl rfl (by simp [go_sem, e0])
      · refine grd_yes (j := 2) (b := false) rfl (hdep ⟨2, .guard⟩ (by simp) rfl) ?_
        have e0 := slot_eq (hag 18 rfl)
        have hq := (x18.keep hE).all.1
        exact rel_pure _ rfl rfl (by simp [go_sem, e0, hq])
      · refine grd_yes (j := 2) (b := false) rfl (hdep ⟨2, .guard⟩ (by simp) rfl) ?_
        have e0 := slot_eq (hag 0 rfl)
        exact rel_pure _ rfl rfl (by simp [go_sem, e0])
      · refine grd_yes (j := 2) (b := false) rfl (hdep ⟨2, .guard⟩ (by simp) rfl) ?_
        have e0 := slot_eq (hag 1 rfl)
        exact rel_pure _ rfl rfl (by simp [go_sem, e0])
      · refine grd_yes (j := 2) (b := false) rfl (hdep ⟨2, .guard⟩ (by simp) rfl) ?_
        have e0 := slot_eq (hdep ⟨4, .data⟩ (by simp) rfl)
        have e1 := slot_eq (hdep ⟨5, .data⟩ (by simp) rfl)
        refine rel_call (f := 33) (args := #[.int .i64 r, .int .i64 n]) (run_go_call Tryd.func33 (by kernel_rfl) (by kernel_rfl) _ _ _ _ _ _ _ _ _ _ (by simp [Act.eval, e0, e1])) rfl ?_
        refine (K2.out wx).mono ?_
        rintro e w' ⟨rfl, hbx⟩
        exact ⟨_, rfl, rfl, hbx⟩
      · refine grd_yes (j := 2) (b := false) rfl (hdep ⟨2, .guard⟩ (by simp) rfl) ?_
        have e0 := slot_eq (hdep ⟨3, .data⟩ (by simp) rfl)
        have e1 := slot_eq (hdep ⟨6, .data⟩ (by simp) rfl)
        exact rel_pure _ rfl rfl (by simp [go_sem, e0, e1])
      · refine grd_none rfl ?_
        have e0 := slot_eq (hdep ⟨2, .data⟩ (by simp) rfl)
        have e1 := slot_eq (hdep ⟨7, .data⟩ (by simp) rfl)
        exact rel_pure _ rfl rfl (by simp [go_sem, e0, e1])
      · refine grd_none rfl ?_
        have e0 := slot_eq (hdep ⟨8, .data⟩ (by simp) rfl)
        exact rel_pure _ rfl rfl (by simp [go_sem, e0])
      · refine grd_yes (j := 9) (b := false) rfl (hdep ⟨9, .guard⟩ (by simp) rfl) ?_
        have e0 := slot_eq (hag 0 rfl)
        exact rel_pure _ rfl rfl (by simp [go_sem, e0])
      · refine grd_yes (j := 9) (b := false) rfl (hdep ⟨9, .guard⟩ (by simp) rfl) ?_
        have e0 := slot_eq (hag 18 rfl)
        have hq := (x18.keep hE).all.1
        exact rel_pure _ rfl rfl (by simp [go_sem, e0, hq])
      · refine grd_yes (j := 9) (b := false) rfl (hdep ⟨9, .guard⟩ (by simp) rfl) ?_
        have e0 := slot_eq (hdep ⟨10, .data⟩ (by simp) rfl)
        have e1 := slot_eq (hdep ⟨11, .data⟩ (by simp) rfl)
        refine rel_call (f := 25) (args := #[.int .i64 r, .agg #[.int .i64 ch, .int .i64 cm, .int .i64 cs, .int .i64 cf]]) (run_go_call Tryd.func25 (by kernel_rfl) (by kernel_rfl) _ _ _ _ _ _ _ _ _ _ (by simp [Act.eval, e0, e1])) rfl ?_
        refine (ref_CodeError r ch cm cs cf wx).mono ?_
        rintro e w' ⟨rfl, hbx⟩
        exact ⟨_, rfl, by rw [K4.out]; rfl, hbx⟩
      · refine grd_yes (j := 9) (b := false) rfl (hdep ⟨9, .guard⟩ (by simp) rfl) ?_
        have e0 := slot_eq (hdep ⟨12, .data⟩ (by simp) rfl)
        exact rel_pure _ rfl rfl (by simp [go_sem, e0])
    · intro t op ht hlt; cases hlt
    intro vs wy hE hvs _
    have k9 : vs 9 = .bool false := hvs 9 (by omega)
    have k13 : vs 13 = .bool false := hvs 13 (by omega)
    simp only [List.drop_succ_cons, List.drop_zero, putAll, dstAt, List.getElem?_toArray, List.getElem?_cons_zero, List.getElem?_cons_succ, Option.bind_some, Act.put, List.setIfInBounds_toArray, List.set_cons_zero, List.set_cons_succ, k9, k13]
    clear hvs k9 k13
    replace x6 := x6.keep hE
    replace x14 := x14.keep hE
    replace x16 := x16.keep hE
    replace x17 := x17.keep hE
    replace x18 := x18.keep hE
    replace B := B.trans (hE.mono B.size)
    clear hE
    obtain ⟨qx6, fx6, lx6⟩ := x6.all
    obtain ⟨qx14, fx14, lx14⟩ := x14.all
    obtain ⟨qx16, fx16, lx16⟩ := x16.all
    obtain ⟨qx17, fx17, lx17⟩ := x17.all
    obtain ⟨qx18, fx18, lx18⟩ := x18.all
    go_wp2_with fail
    refine (conform_Frames_ok r ch cm cs cf _ K4.out).mono ?_
    rintro e v15 ⟨rfl, hb⟩
    clear qx6 fx6 lx6 qx14 fx14 lx14 qx16 fx16 lx16 qx17 fx17 lx17 qx18 fx18 lx18
    replace x6 := x6.keep hb
    replace x14 := x14.keep hb
    replace x16 := x16.keep hb
    replace x17 := x17.keep hb
    replace x18 := x18.keep hb
    replace B := bcall B hb
    clear hb
    obtain ⟨qx6, fx6, lx6⟩ := x6.all
    obtain ⟨qx14, fx14, lx14⟩ := x14.all
    obtain ⟨qx16, fx16, lx16⟩ := x16.all
    obtain ⟨qx17, fx17, lx17⟩ := x17.all
    obtain ⟨qx18, fx18, lx18⟩ := x18.all
    rw [K5.out]
    go_wp2_with fail
    refine (K3.out _).mono ?_
    rintro e v16 ⟨rfl, hb⟩
    clear qx6 fx6 lx6 qx14 fx14 lx14 qx16 fx16 lx16 qx17 fx17 lx17 qx18 fx18 lx18
    replace x6 := x6.keep hb
    replace x14 := x14.keep hb
    replace x16 := x16.keep hb
    replace x17 := x17.keep hb
    replace x18 := x18.keep hb
    replace B := bcall B hb
    clear hb
    obtain ⟨qx6, fx6, lx6⟩ := x6.all
    obtain ⟨qx14, fx14, lx14⟩ := x14.all
    obtain ⟨qx16, fx16, lx16⟩ := x16.all
    obtain ⟨qx17, fx17, lx17⟩ := x17.all
    obtain ⟨qx18, fx18, lx18⟩ := x18.all
    go_upto_region 25 with fail
    refine name_world ?_
    intro v17 hw
    have x20 : Bx v17 v16.heap.size 59 #[.int .i64 ch, .int .i64 cm, .int .i64 cs, .int .i64 cf] := by rw [hw]; exact Bx.new _ _ _
    have hb : Below v16.heap.size v16 v17 := by rw [hw]; exact bnew (Below.refl _ _)
    clear hw
    clear qx6 fx6 lx6 qx14 fx14 lx14 qx16 fx16 lx16 qx17 fx17 lx17 qx18 fx18 lx18
    replace x6 := x6.keep hb
    replace x14 := x14.keep hb
    replace x16 := x16.keep hb
    replace x17 := x17.keep hb
    replace x18 := x18.keep hb
    replace B := bcall B hb
    clear hb
    generalize v16.heap.size = px20 at *
    obtain ⟨qx6, fx6, lx6⟩ := x6.all
    obtain ⟨qx14, fx14, lx14⟩ := x14.all
    obtain ⟨qx16, fx16, lx16⟩ := x16.all
    obtain ⟨qx17, fx17, lx17⟩ := x17.all
    obtain ⟨qx18, fx18, lx18⟩ := x18.all
    obtain ⟨qx20, fx20, lx20⟩ := x20.all
    by_cases m1 : n < 0
    · have d1 : decide (n < 0) = true := decide_eq_true m1
      clear m1
      go_wp2_with fail
      go_ret
      exact ⟨rfl, B⟩
    have d1 : decide (n < 0) = false := decide_eq_false m1
    by_cases m2 : 2000000 ≤ n
    · have d2 : decide (2000000 ≤ n) = true := decide_eq_true m2
      clear m1 m2
      go_wp2_with fail
      go_ret
      exact ⟨rfl, B⟩
    have d2 : decide (2000000 ≤ n) = false := decide_eq_false m2
    have hk := K6.out (by omega) (by omega)
    have d3 : (k == n) = true := by simpa using hk
    clear m1 m2 hk
    go_wp2_with fail
    go_ret
    exact ⟨rfl, B⟩
  · obtain ⟨E, he⟩ : ∃ E, codeE r h m s f = E := ⟨_, rfl⟩
    rw [he] at hE
    have He := Lib.hid he
    have eE : (E != 0) = true := by simpa using hE
    clear he
    go_enter Tryd.func6, Tryd.ntmps6
    go_upto_region 3 with (go_at_call 7; refine (law_landed _).mono ?_; rintro e w' ⟨rfl, rfl⟩)
    refine name_world ?_
    intro v0 hw0
    have x6 : Bx v0 W.heap.size 59 #[.int .i64 h, .int .i64 m, .int .i64 s, .int .i64 f] := by rw [hw0]; exact Bx.new _ _ _
    have B : Below W.heap.size W v0 := by rw [hw0]; exact bnew (Below.refl _ W)
    clear hw0
    obtain ⟨qx6, fx6, lx6⟩ := x6.all
    go_wp2_with fail
    refine (ref_CodeError r h m s f _).mono ?_
    rintro e v1 ⟨rfl, hb⟩
    clear qx6 fx6 lx6
    replace x6 := x6.keep hb
    replace B := bcall B hb
    clear hb
    obtain ⟨qx6, fx6, lx6⟩ := x6.all
    rw [He.out]
    go_wp2_with fail
    refine (conform_Frames_err r h m s f _ E He.out hE).mono ?_
    rintro e v2 ⟨rfl, hb⟩
    clear qx6 fx6 lx6
    replace x6 := x6.keep hb
    replace B := bcall B hb
    clear hb
    obtain ⟨qx6, fx6, lx6⟩ := x6.all
    go_wp2_with fail
    refine (conform_PrintCode_err r h m s f _ E He.out hE).mono ?_
    rintro e v3 ⟨rfl, hb⟩
    clear qx6 fx6 lx6
    replace x6 := x6.keep hb
    replace B := bcall B hb
    clear hb
    obtain ⟨qx6, fx6, lx6⟩ := x6.all
    cases hr0 : rateB r
    · have hr := Lib.hid hr0
      have hz1 := hz.out
      rw [if_pos hr0] at hz1
      replace hz := Lib.hid hz1
      clear hr0 hz1
      go_wp2_with fail
      refine (conform_ParseCode r text _ va vb vc vd vE hP.out).mono ?_
      rintro e v4 ⟨rfl, hb⟩
      clear qx6 fx6 lx6
      replace x6 := x6.keep hb
      replace B := bcall B hb
      clear hb
      obtain ⟨qx6, fx6, lx6⟩ := x6.all
      go_upto_region 15 with fail
      refine name_world ?_
      intro v5 hw
      have x16 : Bx v5 v4.heap.size 59 #[.int .i64 va, .int .i64 vb, .int .i64 vc, .int .i64 vd] := by rw [hw]; exact Bx.new _ _ _
      have hb : Below v4.heap.size v4 v5 := by rw [hw]; exact bnew (Below.refl _ _)
      clear hw
      clear qx6 fx6 lx6
      replace x6 := x6.keep hb
      replace B := bcall B hb
      clear hb
      generalize v4.heap.size = px16 at *
      obtain ⟨qx6, fx6, lx6⟩ := x6.all
      obtain ⟨qx16, fx16, lx16⟩ := x16.all
      go_wp2_with fail
      refine (ref_ParseCode r text _ va vb vc vd vE hP.out).mono ?_
      rintro e v6 ⟨rfl, hb⟩
      clear qx6 fx6 lx6 qx16 fx16 lx16
      replace x6 := x6.keep hb
      replace x16 := x16.keep hb
      replace B := bcall B hb
      clear hb
      obtain ⟨qx6, fx6, lx6⟩ := x6.all
      obtain ⟨qx16, fx16, lx16⟩ := x16.all
      go_upto_region 16 with fail
      refine name_world ?_
      intro v7 hw
      have x17 : Bx v7 v6.heap.size 59 #[.int .i64 va, .int .i64 vb, .int .i64 vc, .int .i64 vd] := by rw [hw]; exact Bx.new _ _ _
      have hb : Below v6.heap.size v6 v7 := by rw [hw]; exact bnew (Below.refl _ _)
      clear hw
      clear qx6 fx6 lx6 qx16 fx16 lx16
      replace x6 := x6.keep hb
      replace x16 := x16.keep hb
      replace B := bcall B hb
      clear hb
      generalize v6.heap.size = px17 at *
      obtain ⟨qx6, fx6, lx6⟩ := x6.all
      obtain ⟨qx16, fx16, lx16⟩ := x16.all
      obtain ⟨qx17, fx17, lx17⟩ := x17.all
      go_wp2_with fail
      refine (conform_CodeOf_err r n _ hr.out).mono ?_
      rintro e v8 ⟨rfl, hb⟩
      clear qx6 fx6 lx6 qx16 fx16 lx16 qx17 fx17 lx17
      replace x6 := x6.keep hb
      replace x16 := x16.keep hb
      replace x17 := x17.keep hb
      replace B := bcall B hb
      clear hb
      obtain ⟨qx6, fx6, lx6⟩ := x6.all
      obtain ⟨qx16, fx16, lx16⟩ := x16.all
      obtain ⟨qx17, fx17, lx17⟩ := x17.all
      go_upto_region 19 with fail
      refine name_world ?_
      intro v9 hw
      have x18 : Bx v9 v8.heap.size 59 #[.int .i64 0, .int .i64 0, .int .i64 0, .int .i64 0] := by rw [hw]; exact Bx.new _ _ _
      have hb : Below v8.heap.size v8 v9 := by rw [hw]; exact bnew (Below.refl _ _)
      clear hw
      clear qx6 fx6 lx6 qx16 fx16 lx16 qx17 fx17 lx17
      replace x6 := x6.keep hb
      replace x16 := x16.keep hb
      replace x17 := x17.keep hb
      replace B := bcall B hb
      clear hb
      generalize v8.heap.size = px18 at *
      obtain ⟨qx6, fx6, lx6⟩ := x6.all
      obtain ⟨qx16, fx16, lx16⟩ := x16.all
      obtain ⟨qx17, fx17, lx17⟩ := x17.all
      obtain ⟨qx18, fx18, lx18⟩ := x18.all
      go_wp2_with fail
      refine (ref_CodeError r 0 0 0 0 _).mono ?_
      rintro e v10 ⟨rfl, hb⟩
      clear qx6 fx6 lx6 qx16 fx16 lx16 qx17 fx17 lx17 qx18 fx18 lx18
      replace x6 := x6.keep hb
      replace x16 := x16.keep hb
      replace x17 := x17.keep hb
      replace x18 := x18.keep hb
      replace B := bcall B hb
      clear hb
      obtain ⟨qx6, fx6, lx6⟩ := x6.all
      obtain ⟨qx16, fx16, lx16⟩ := x16.all
      obtain ⟨qx17, fx17, lx17⟩ := x17.all
      obtain ⟨qx18, fx18, lx18⟩ := x18.all
      rw [hz.out]
      go_wp2_with fail
      go_ret
      exact ⟨rfl, B⟩
    · have hr := Lib.hid hr0
      have hz1 := hz.out
      rw [if_neg (by rw [hr0]; decide)] at hz1
      obtain ⟨ch, cm, cs, cf, k, K1, K2, K3, K4, K5, K6⟩ := code_pack r n hr0 hn1 hn2
      clear hn1 hn2
      replace hz := Lib.hid hz1
      clear hr0 hz1
      go_wp2_with fail
      refine (conform_ParseCode r text _ va vb vc vd vE hP.out).mono ?_
      rintro e v4 ⟨rfl, hb⟩
      clear qx6 fx6 lx6
      replace x6 := x6.keep hb
      replace B := bcall B hb
      clear hb
      obtain ⟨qx6, fx6, lx6⟩ := x6.all
      go_upto_region 15 with fail
      refine name_world ?_
      intro v5 hw
      have x16 : Bx v5 v4.heap.size 59 #[.int .i64 va, .int .i64 vb, .int .i64 vc, .int .i64 vd] := by rw [hw]; exact Bx.new _ _ _
      have hb : Below v4.heap.size v4 v5 := by rw [hw]; exact bnew (Below.refl _ _)
      clear hw
      clear qx6 fx6 lx6
      replace x6 := x6.keep hb
      replace B := bcall B hb
      clear hb
      generalize v4.heap.size = px16 at *
      obtain ⟨qx6, fx6, lx6⟩ := x6.all
      obtain ⟨qx16, fx16, lx16⟩ := x16.all
      go_wp2_with fail
      refine (ref_ParseCode r text _ va vb vc vd vE hP.out).mono ?_
      rintro e v6 ⟨rfl, hb⟩
      clear qx6 fx6 lx6 qx16 fx16 lx16
      replace x6 := x6.keep hb
      replace x16 := x16.keep hb
      replace B := bcall B hb
      clear hb
      obtain ⟨qx6, fx6, lx6⟩ := x6.all
      obtain ⟨qx16, fx16, lx16⟩ := x16.all
      go_upto_region 16 with fail
      refine name_world ?_
      intro v7 hw
      have x17 : Bx v7 v6.heap.size 59 #[.int .i64 va, .int .i64 vb, .int .i64 vc, .int .i64 vd] := by rw [hw]; exact Bx.new _ _ _
      have hb : Below v6.heap.size v6 v7 := by rw [hw]; exact bnew (Below.refl _ _)
      clear hw
      clear qx6 fx6 lx6 qx16 fx16 lx16
      replace x6 := x6.keep hb
      replace x16 := x16.keep hb
      replace B := bcall B hb
      clear hb
      generalize v6.heap.size = px17 at *
      obtain ⟨qx6, fx6, lx6⟩ := x6.all
      obtain ⟨qx16, fx16, lx16⟩ := x16.all
      obtain ⟨qx17, fx17, lx17⟩ := x17.all
      go_wp2_with fail
      refine (K1.out _).mono ?_
      rintro e v8 ⟨rfl, hb⟩
      clear qx6 fx6 lx6 qx16 fx16 lx16 qx17 fx17 lx17
      replace x6 := x6.keep hb
      replace x16 := x16.keep hb
      replace x17 := x17.keep hb
      replace B := bcall B hb
      clear hb
      obtain ⟨qx6, fx6, lx6⟩ := x6.all
      obtain ⟨qx16, fx16, lx16⟩ := x16.all
      obtain ⟨qx17, fx17, lx17⟩ := x17.all
      go_upto_region 19 with fail
      refine name_world ?_
      intro v9 hw
      have x18 : Bx v9 v8.heap.size 59 #[.int .i64 ch, .int .i64 cm, .int .i64 cs, .int .i64 cf] := by rw [hw]; exact Bx.new _ _ _
      have hb : Below v8.heap.size v8 v9 := by rw [hw]; exact bnew (Below.refl _ _)
      clear hw
      clear qx6 fx6 lx6 qx16 fx16 lx16 qx17 fx17 lx17
      replace x6 := x6.keep hb
      replace x16 := x16.keep hb
      replace x17 := x17.keep hb
      replace B := bcall B hb
      clear hb
      generalize v8.heap.size = px18 at *
      obtain ⟨qx6, fx6, lx6⟩ := x6.all
      obtain ⟨qx16, fx16, lx16⟩ := x16.all
      obtain ⟨qx17, fx17, lx17⟩ := x17.all
      obtain ⟨qx18, fx18, lx18⟩ := x18.all
      go_wp2_with fail
      refine (ref_CodeError r 0 0 0 0 _).mono ?_
      rintro e v10 ⟨rfl, hb⟩
      clear qx6 fx6 lx6 qx16 fx16 lx16 qx17 fx17 lx17 qx18 fx18 lx18
      replace x6 := x6.keep hb
      replace x16 := x16.keep hb
      replace x17 := x17.keep hb
      replace x18 := x18.keep hb
      replace B := bcall B hb
      clear hb
      obtain ⟨qx6, fx6, lx6⟩ := x6.all
      obtain ⟨qx16, fx16, lx16⟩ := x16.all
      obtain ⟨qx17, fx17, lx17⟩ := x17.all
      obtain ⟨qx18, fx18, lx18⟩ := x18.all
      rw [hz.out]
      go_upto_region 21 with fail
      clear qx6 fx6 lx6 qx16 fx16 lx16 qx17 fx17 lx17 qx18 fx18 lx18
      refine wp_region_grd 14 (fun _ => false) (fun q u w' => u = [.int .i64 0, .bool false, .bool false, .agg #[.int .i64 ch, .int .i64 cm, .int .i64 cs, .int .i64 cf], .int .i64 r, .int .i64 n, .agg #[.int .i64 ch, .int .i64 cm, .int .i64 cs, .int .i64 cf], .bool false, .bool false, .bool false, .int .i64 r, .agg #[.int .i64 ch, .int .i64 cm, .int .i64 cs, .int .i64 cf], .int .i64 0, .bool false].getD q undef) (fun _ => false) (fun w' => Below v10.heap.size v10 w') (by kernel_rfl) (by kernel_rfl) (fun _ _ _ _ _ h => h)
        (fun _ _ h e => e.trans (h.mono e.size)) (fun t u a' b' hb h => ?_) (Below.refl _ _).drew ?_ ?_ ?_
      · exact h
      · intro t op ht hlt hop
        clear hlt
        rcases (by omega : t = 0 ∨ t = 1 ∨ t = 2 ∨ t = 3 ∨ t = 4 ∨ t = 5 ∨ t = 6 ∨ t = 7 ∨ t = 8 ∨ t = 9 ∨ t = 10 ∨ t = 11 ∨ t = 12 ∨ t = 13) with rfl | rfl | rfl | rfl | rfl | rfl | rfl | rfl | rfl | rfl | rfl | rfl | rfl | rfl
        all_goals simp only [List.getElem?_cons_zero, List.getElem?_cons_succ, Option.some.injEq] at hop
        all_goals subst hop
        all_goals intro a wx hE hag hdep
        · refine grd_none rfl ?_
          have e0 := slot_eq (hag 9 rfl)
          exact rel_pure _ rfl rfl (by simp [go_sem, e0])
        · refine grd_none rfl ?_
          have e0 := slot_eq (hdep ⟨0, .data⟩ (by simp) rfl)
          exact rel_pure _ rfl rfl (by simp [go_sem, e0])
        · refine grd_none rfl ?_
          have e0 := slot_eq (hdep ⟨1, .data⟩ (by simp) rfl)
          exact rel_pure _ rfl rfl (by simp [go_sem, e0])
        · refine grd_yes (j := 2) (b := false) rfl (hdep ⟨2, .guard⟩ (by simp) rfl) ?_
          have e0 := slot_eq (hag 18 rfl)
          have hq := (x18.keep hE).all.1
          exact rel_pure _ rfl rfl (by simp [go_sem, e0, hq])
        · refine grd_yes (j := 2) (b := false) rfl (hdep ⟨2, .guard⟩ (by simp) rfl) ?_
          have e0 := slot_eq (hag 0 rfl)
          exact rel_pure _ rfl rfl (by simp [go_sem, e0])
        · refine grd_yes (j := 2) (b := false) rfl (hdep ⟨2, .guard⟩ (by simp) rfl) ?_
          have e0 := slot_eq (hag 1 rfl)
          exact rel_pure _ rfl rfl (by simp [go_sem, e0])
        · refine grd_yes (j := 2) (b := false) rfl (hdep ⟨2, .guard⟩ (by simp) rfl) ?_
          have e0 := slot_eq (hdep ⟨4, .data⟩ (by simp) rfl)
          have e1 := slot_eq (hdep ⟨5, .data⟩ (by simp) rfl)
          refine rel_call (f := 33) (args := #[.int .i64 r, .int .i64 n]) (run_go_call Tryd.func33 (by kernel_rfl) (by kernel_rfl) _ _ _ _ _ _ _ _ _ _ (by simp [Act.eval, e0, e1])) rfl ?_
          refine (K2.out wx).mono ?_
          rintro e w' ⟨rfl, hbx⟩
          exact ⟨_, rfl, rfl, hbx⟩
        · refine grd_yes (j := 2) (b := false) rfl (hdep ⟨2, .guard⟩ (by simp) rfl) ?_
          have e0 := slot_eq (hdep ⟨3, .data⟩ (by simp) rfl)
          have e1 := slot_eq (hdep ⟨6, .data⟩ (by simp) rfl)
          exact rel_pure _ rfl rfl (by simp [go_sem, e0, e1])
        · refine grd_none rfl ?_
          have e0 := slot_eq (hdep ⟨2, .data⟩ (by simp) rfl)
          have e1 := slot_eq (hdep ⟨7, .data⟩ (by simp) rfl)
          exact rel_pure _ rfl rfl (by simp [go_sem, e0, e1])
        · refine grd_none rfl ?_
          have e0 := slot_eq (hdep ⟨8, .data⟩ (by simp) rfl)
          exact rel_pure _ rfl rfl (by simp [go_sem, e0])
        · refine grd_yes (j := 9) (b := false) rfl (hdep ⟨9, .guard⟩ (by simp) rfl) ?_
          have e0 := slot_eq (hag 0 rfl)
          exact rel_pure _ rfl rfl (by simp [go_sem, e0])
        · refine grd_yes (j := 9) (b := false) rfl (hdep ⟨9, .guard⟩ (by simp) rfl) ?_
          have e0 := slot_eq (hag 18 rfl)
          have hq := (x18.keep hE).all.1
          exact rel_pure _ rfl rfl (by simp [go_sem, e0, hq])
        · refine grd_yes (j := 9) (b := false) rfl (hdep ⟨9, .guard⟩ (by simp) rfl) ?_
          have e0 := slot_eq (hdep ⟨10, .data⟩ (by simp) rfl)
          have e1 := slot_eq (hdep ⟨11, .data⟩ (by simp) rfl)
          refine rel_call (f := 25) (args := #[.int .i64 r, .agg #[.int .i64 ch, .int .i64 cm, .int .i64 cs, .int .i64 cf]]) (run_go_call Tryd.func25 (by kernel_rfl) (by kernel_rfl) _ _ _ _ _ _ _ _ _ _ (by simp [Act.eval, e0, e1])) rfl ?_
          refine (ref_CodeError r ch cm cs cf wx).mono ?_
          rintro e w' ⟨rfl, hbx⟩
          exact ⟨_, rfl, by rw [K4.out]; rfl, hbx⟩
        · refine grd_yes (j := 9) (b := false) rfl (hdep ⟨9, .guard⟩ (by simp) rfl) ?_
          have e0 := slot_eq (hdep ⟨12, .data⟩ (by simp) rfl)
          exact rel_pure _ rfl rfl (by simp [go_sem, e0])
      · intro t op ht hlt; cases hlt
      intro vs wy hE hvs _
      have k9 : vs 9 = .bool false := hvs 9 (by omega)
      have k13 : vs 13 = .bool false := hvs 13 (by omega)
      simp only [List.drop_succ_cons, List.drop_zero, putAll, dstAt, List.getElem?_toArray, List.getElem?_cons_zero, List.getElem?_cons_succ, Option.bind_some, Act.put, List.setIfInBounds_toArray, List.set_cons_zero, List.set_cons_succ, k9, k13]
      clear hvs k9 k13
      replace x6 := x6.keep hE
      replace x16 := x16.keep hE
      replace x17 := x17.keep hE
      replace x18 := x18.keep hE
      replace B := B.trans (hE.mono B.size)
      clear hE
      obtain ⟨qx6, fx6, lx6⟩ := x6.all
      obtain ⟨qx16, fx16, lx16⟩ := x16.all
      obtain ⟨qx17, fx17, lx17⟩ := x17.all
      obtain ⟨qx18, fx18, lx18⟩ := x18.all
      go_wp2_with fail
      refine (conform_Frames_ok r ch cm cs cf _ K4.out).mono ?_
      rintro e v11 ⟨rfl, hb⟩
      clear qx6 fx6 lx6 qx16 fx16 lx16 qx17 fx17 lx17 qx18 fx18 lx18
      replace x6 := x6.keep hb
      replace x16 := x16.keep hb
      replace x17 := x17.keep hb
      replace x18 := x18.keep hb
      replace B := bcall B hb
      clear hb
      obtain ⟨qx6, fx6, lx6⟩ := x6.all
      obtain ⟨qx16, fx16, lx16⟩ := x16.all
      obtain ⟨qx17, fx17, lx17⟩ := x17.all
      obtain ⟨qx18, fx18, lx18⟩ := x18.all
      rw [K5.out]
      go_wp2_with fail
      refine (K3.out _).mono ?_
      rintro e v12 ⟨rfl, hb⟩
      clear qx6 fx6 lx6 qx16 fx16 lx16 qx17 fx17 lx17 qx18 fx18 lx18
      replace x6 := x6.keep hb
      replace x16 := x16.keep hb
      replace x17 := x17.keep hb
      replace x18 := x18.keep hb
      replace B := bcall B hb
      clear hb
      obtain ⟨qx6, fx6, lx6⟩ := x6.all
      obtain ⟨qx16, fx16, lx16⟩ := x16.all
      obtain ⟨qx17, fx17, lx17⟩ := x17.all
      obtain ⟨qx18, fx18, lx18⟩ := x18.all
      go_upto_region 25 with fail
      refine name_world ?_
      intro v13 hw
      have x20 : Bx v13 v12.heap.size 59 #[.int .i64 ch, .int .i64 cm, .int .i64 cs, .int .i64 cf] := by rw [hw]; exact Bx.new _ _ _
      have hb : Below v12.heap.size v12 v13 := by rw [hw]; exact bnew (Below.refl _ _)
      clear hw
      clear qx6 fx6 lx6 qx16 fx16 lx16 qx17 fx17 lx17 qx18 fx18 lx18
      replace x6 := x6.keep hb
      replace x16 := x16.keep hb
      replace x17 := x17.keep hb
      replace x18 := x18.keep hb
      replace B := bcall B hb
      clear hb
      generalize v12.heap.size = px20 at *
      obtain ⟨qx6, fx6, lx6⟩ := x6.all
      obtain ⟨qx16, fx16, lx16⟩ := x16.all
      obtain ⟨qx17, fx17, lx17⟩ := x17.all
      obtain ⟨qx18, fx18, lx18⟩ := x18.all
      obtain ⟨qx20, fx20, lx20⟩ := x20.all
      by_cases m1 : n < 0
      · have d1 : decide (n < 0) = true := decide_eq_true m1
        clear m1
        go_wp2_with fail
        go_ret
        exact ⟨rfl, B⟩
      have d1 : decide (n < 0) = false := decide_eq_false m1
      by_cases m2 : 2000000 ≤ n
      · have d2 : decide (2000000 ≤ n) = true := decide_eq_true m2
        clear m1 m2
        go_wp2_with fail
        go_ret
        exact ⟨rfl, B⟩
      have d2 : decide (2000000 ≤ n) = false := decide_eq_false m2
      have hk := K6.out (by omega) (by omega)
      have d3 : (k == n) = true := by simpa using hk
      clear m1 m2 hk
      go_wp2_with fail
      go_ret
      exact ⟨rfl, B⟩
end Go.Proofs.YtjicgbpnplmpbaaDoor
