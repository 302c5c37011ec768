/- dyeref1's Review: state, Text. (printed by gen_rvtb.py) -/
import Derived.Test.YtilninaminaadaaGreatDoorRvTp
import Derived.Test.YtilninaminaadaaGreatDoorRvL
import Derived.Test.YtilninaminaadaaGreatDoorGrd
namespace Go.Proofs.YtilninaminaadaaGreatDoor
open Go.RowKit Go.Maps

set_option maxRecDepth 100000 in
set_option maxHeartbeats 2000000 in
theorem ref_state (n f : Int) (s a t : ByteArray) (o : Bool) (v : Value) (W : World) : Calls Tryz.prog 35 #[.agg #[.int .i64 n, .string s, .int .i64 f, .string a, .string t, .bool o, v]] W fun e w' => e = .returned (.string (stB o)) ∧ Below W.heap.size W w' := by
  go_enter Tryz.func35, Tryz.ntmps35
  go_upto_region 1 with fail
  refine name_world ?_
  intro w0 hw0
  have x2 : Bx w0 W.heap.size 65 #[.int .i64 n, .string s, .int .i64 f, .string a, .string t, .bool o, v] := by rw [hw0]; exact Bx.new _ _ _
  have B : Below W.heap.size W w0 := by rw [hw0]; exact bnew (Below.refl _ W)
  clear hw0
  obtain ⟨q2, f2, l2⟩ := x2.all
  cases o
  all_goals
    go_wp2_with fail
    go_ret
    exact ⟨rfl, B⟩
set_option maxRecDepth 100000 in
set_option maxHeartbeats 16000000 in
theorem ref_Text (p : Nat) (σ : Rv) (F : Nat → Prop) (vn vb va : Value) (m : Nat) (rv : Nat → Value) (W : World) (h : RO W p σ F vn vb va m rv) (wf : Wf σ) (hal : σ.appr.length ≤ 1000000000) (E : EnvT W) :
    Calls Tryz.prog 11 #[.pointer (some ⟨p, 0, none⟩)] W fun e w' => e = .returned (.string (ofL (textS σ))) ∧ Below W.heap.size W w' := by
  have hlen := wf.len
  have HW := Lib.hid wf
  have HN : Hid (∀ k, k ≤ σ.notes.length → (notesT σ.notes k).length ≤ 112000 * k) := Lib.hid (notesT_len wf)
  obtain ⟨a, c, rfl, _⟩ := h.row.form
  have H := Lib.hid h
  obtain ⟨n0, hn⟩ : ∃ n, n = σ.notes.length := ⟨_, rfl⟩
  rw [← hn] at H hlen HN
  have Hn := Lib.hid hn
  have hbx := h.bx
  rw [← hn] at hbx
  clear wf hn h
  obtain ⟨q, f, l⟩ := hbx.all
  go_enter Tryz.func11, Tryz.ntmps11
  go_wp2_with fail
  clear q f l hbx
  go_loopw [3, 16] (fun ov i wr => ∃ (k : Nat) (OUT : ByteArray), k ≤ n0 ∧ ov = .string OUT ∧ i = .int .i64 (k : Int) ∧ Hid (OUT = ofL (notesT σ.notes k)) ∧ OUT.size ≤ 112000 * k ∧ Below W.heap.size W wr) (fun _ i _ => n0 - (intOf i).toNat)
  case atStart => exact ⟨0, ⟨#[]⟩, by omega, rfl, rfl, Lib.hid rfl, (show (⟨#[]⟩ : ByteArray).size ≤ 112000 * 0 from Nat.le_refl 0), Below.refl _ _⟩
  case round =>
    obtain ⟨k, OUT, hk, rfl, rfl, HO, hos, B⟩ := hrel
    by_cases hlt : k < n0
    · have hks : k < σ.notes.length := by rw [← Hn.out]; exact hlt
      obtain ⟨g, cap, eg, hg, hfz, c0, c1, c2, c3, c4, c5, c6⟩ := (H.out.keep B).at hks
      obtain ⟨rfl, rfl⟩ : a = some ⟨g, 0, none⟩ ∧ c = cap := by cases eg; exact ⟨rfl, rfl⟩
      have hwn := HW.out.notes _ (nAt_mem hks)
      have hsucc := notesT_succ σ.notes k
      unfold noteT at hsucc
      have hrep := H.out.reps k hks
      obtain ⟨ra, rc, er, _, _⟩ := hrep.form
      rw [er] at c6 hrep
      generalize hx : nAt σ.notes k = x at *
      obtain ⟨xs, xf, xa, xt, xo, xr, xc, xd⟩ := x
      have hrl := hwn.reps.1
      have h1 := (name_sz hwn.shot).2
      have h2 := (name_sz hwn.author).2
      have h3 := text_sz hwn.text.2
      have h4 := itB_size ((k : Int) + 1) (by omega) (by omega)
      have h5 := itB_size xf hwn.frame.1 hwn.frame.2
      have h6 := stB_size xo
      have KPA := Lib.hid (fun w E => itB_call ((k : Int) + 1) (by omega) (by omega) w E)
      have KPB := Lib.hid (fun w E => itB_call xf hwn.frame.1 hwn.frame.2 w E)
      have hsz := noteB_size (show k ≤ 2000 by omega) hwn
      have hS : (⟨#[110, 111, 116, 101, 32]⟩ : ByteArray) ++ itB ((k : Int) + 1) ++ (⟨#[32]⟩ : ByteArray) ++ xs ++ (⟨#[32]⟩ : ByteArray) ++ itB xf ++ (⟨#[32]⟩ : ByteArray) ++ xa ++ (⟨#[32]⟩ : ByteArray) ++ stB xo ++ (⟨#[58, 32]⟩ : ByteArray) ++ xt ++ (⟨#[10]⟩ : ByteArray) = noteB k ⟨xs, xf, xa, xt, xo, xr, xc, xd⟩ := rfl
      have HWN := Lib.hid hwn
      clear hwn
      dsimp only at c0 c1 c2 c3 c4 c5 c6 h1 h2 h3 hrl hsucc
      generalize noteB k ⟨xs, xf, xa, xt, xo, xr, xc, xd⟩ = NT at *
      generalize itB ((k : Int) + 1) = PA at *
      generalize itB xf = PB at *
      obtain ⟨rl, hrl2⟩ : ∃ rl, rl = xr.length := ⟨_, rfl⟩
      rw [← hrl2] at c6 hrl
      replace hrep : RowN W 74 2 (.slice ra rl rc) rl (rcell xr) := by rw [hrl2]; exact hrep
      have KST := Lib.hid (fun w => ref_state ((k : Int) + 1) xf xs xa xt xo (.slice ra rl rc) w)
      generalize stB xo = ST at *
      have HS := Lib.hid hS
      have HSU := Lib.hid hsucc
      have hki : (k : Int) < (n0 : Int) := by omega
      have Hrep := Lib.hid hrep
      have Hrl2 := Lib.hid hrl2
      clear eg er hrep hrl2 hx hS hsucc
      go_upto_region 5 with fail
      refine name_world ?_
      intro w3 hw3
      obtain ⟨p9, hp9⟩ : ∃ p, p = wr.heap.size := ⟨_, rfl⟩
      have x9 : Bx w3 p9 65 #[.int .i64 ((k : Int) + 1), .string xs, .int .i64 xf, .string xa, .string xt, .bool xo, .slice ra rl rc] := by rw [hw3, hp9]; exact Bx.new _ _ _
      have b3 : Below wr.heap.size wr w3 := by rw [hw3]; exact bnew (Below.refl _ _)
      replace B := bcall B b3
      rw [← hp9]
      have E3 := E.below B
      clear hw3 c0 c1 c2 c3 c4 c5 c6 hfz hg hp9 b3
      obtain ⟨q9, f9, l9⟩ := x9.all
      clear q9 f9
      refine wp_region_grd 28 (fun _ => false) (fun q u w' => u = [.string OUT, .pointer (some ⟨p9, 0, none⟩), .int .i64 ((k : Int) + 1), .string PA, .string ((⟨#[110, 111, 116, 101, 32]⟩ : ByteArray) ++ PA), .string ((⟨#[110, 111, 116, 101, 32]⟩ : ByteArray) ++ PA ++ (⟨#[32]⟩ : ByteArray)), .pointer (some ⟨p9, 1, none⟩), .string xs, .string ((⟨#[110, 111, 116, 101, 32]⟩ : ByteArray) ++ PA ++ (⟨#[32]⟩ : ByteArray) ++ xs), .string ((⟨#[110, 111, 116, 101, 32]⟩ : ByteArray) ++ PA ++ (⟨#[32]⟩ : ByteArray) ++ xs ++ (⟨#[32]⟩ : ByteArray)), .pointer (some ⟨p9, 2, none⟩), .int .i64 xf, .string PB, .string ((⟨#[110, 111, 116, 101, 32]⟩ : ByteArray) ++ PA ++ (⟨#[32]⟩ : ByteArray) ++ xs ++ (⟨#[32]⟩ : ByteArray) ++ PB), .string ((⟨#[110, 111, 116, 101, 32]⟩ : ByteArray) ++ PA ++ (⟨#[32]⟩ : ByteArray) ++ xs ++ (⟨#[32]⟩ : ByteArray) ++ PB ++ (⟨#[32]⟩ : ByteArray)), .pointer (some ⟨p9, 3, none⟩), .string xa, .string ((⟨#[110, 111, 116, 101, 32]⟩ : ByteArray) ++ PA ++ (⟨#[32]⟩ : ByteArray) ++ xs ++ (⟨#[32]⟩ : ByteArray) ++ PB ++ (⟨#[32]⟩ : ByteArray) ++ xa), .string ((⟨#[110, 111, 116, 101, 32]⟩ : ByteArray) ++ PA ++ (⟨#[32]⟩ : ByteArray) ++ xs ++ (⟨#[32]⟩ : ByteArray) ++ PB ++ (⟨#[32]⟩ : ByteArray) ++ xa ++ (⟨#[32]⟩ : ByteArray)), .agg #[.int .i64 ((k : Int) + 1), .string xs, .int .i64 xf, .string xa, .string xt, .bool xo, .slice ra rl rc], .string ST, .string ((⟨#[110, 111, 116, 101, 32]⟩ : ByteArray) ++ PA ++ (⟨#[32]⟩ : ByteArray) ++ xs ++ (⟨#[32]⟩ : ByteArray) ++ PB ++ (⟨#[32]⟩ : ByteArray) ++ xa ++ (⟨#[32]⟩ : ByteArray) ++ ST), .string ((⟨#[110, 111, 116, 101, 32]⟩ : ByteArray) ++ PA ++ (⟨#[32]⟩ : ByteArray) ++ xs ++ (⟨#[32]⟩ : ByteArray) ++ PB ++ (⟨#[32]⟩ : ByteArray) ++ xa ++ (⟨#[32]⟩ : ByteArray) ++ ST ++ (⟨#[58, 32]⟩ : ByteArray)), .pointer (some ⟨p9, 4, none⟩), .string xt, .string ((⟨#[110, 111, 116, 101, 32]⟩ : ByteArray) ++ PA ++ (⟨#[32]⟩ : ByteArray) ++ xs ++ (⟨#[32]⟩ : ByteArray) ++ PB ++ (⟨#[32]⟩ : ByteArray) ++ xa ++ (⟨#[32]⟩ : ByteArray) ++ ST ++ (⟨#[58, 32]⟩ : ByteArray) ++ xt), .string ((⟨#[110, 111, 116, 101, 32]⟩ : ByteArray) ++ PA ++ (⟨#[32]⟩ : ByteArray) ++ xs ++ (⟨#[32]⟩ : ByteArray) ++ PB ++ (⟨#[32]⟩ : ByteArray) ++ xa ++ (⟨#[32]⟩ : ByteArray) ++ ST ++ (⟨#[58, 32]⟩ : ByteArray) ++ xt ++ (⟨#[10]⟩ : ByteArray)), .string (OUT ++ ((⟨#[110, 111, 116, 101, 32]⟩ : ByteArray) ++ PA ++ (⟨#[32]⟩ : ByteArray) ++ xs ++ (⟨#[32]⟩ : ByteArray) ++ PB ++ (⟨#[32]⟩ : ByteArray) ++ xa ++ (⟨#[32]⟩ : ByteArray) ++ ST ++ (⟨#[58, 32]⟩ : ByteArray) ++ xt ++ (⟨#[10]⟩ : ByteArray)))].getD q undef) (fun _ => false) (fun w' => Below w3.heap.size w3 w') (by kernel_rfl) (by kernel_rfl) (fun _ _ _ _ _ h => h)
        (fun _ _ h e => e.trans (h.mono e.size)) (fun t u a' b' hb h => ?_) (Below.refl _ _).drew ?_ ?_ ?_
      · exact h
      · intro t op ht hlt hop
        clear hlt
        rcases (by omega : t = 0 ∨ t = 1 ∨ t = 2 ∨ t = 3 ∨ t = 4 ∨ t = 5 ∨ t = 6 ∨ t = 7 ∨ t = 8 ∨ t = 9 ∨ t = 10 ∨ t = 11 ∨ t = 12 ∨ t = 13 ∨ t = 14 ∨ t = 15 ∨ t = 16 ∨ t = 17 ∨ t = 18 ∨ t = 19 ∨ t = 20 ∨ t = 21 ∨ t = 22 ∨ t = 23 ∨ t = 24 ∨ t = 25 ∨ t = 26 ∨ t = 27) with rfl | rfl | rfl | rfl | rfl | rfl | rfl | rfl | rfl | rfl | rfl | rfl | rfl | rfl | rfl | rfl | rfl | rfl | rfl | rfl | rfl | rfl | rfl | rfl | rfl | rfl | rfl | rfl
        all_goals simp only [List.getElem?_cons_zero, List.getElem?_cons_succ, Option.some.injEq] at hop
        all_goals subst hop
        all_goals intro a wx hE hag hdep
        · refine grd_none rfl ?_
          have e0 := slot_eq (hag 3 rfl)
          exact rel_pure _ rfl rfl (by simp [go_sem, e0])
        · refine grd_none rfl ?_
          have e0 := slot_eq (hag 5 rfl)
          exact rel_pure _ rfl rfl (by simp [go_sem, e0])
        · refine grd_none rfl ?_
          have e0 := slot_eq (hdep ⟨1, .data⟩ (by simp) rfl)
          have hq := (x9.keep hE).all.1
          exact rel_pure _ rfl rfl (by simp [go_sem, e0, hq])
        · refine grd_none rfl ?_
          have e0 := slot_eq (hdep ⟨2, .data⟩ (by simp) rfl)
          refine rel_call (f := 30) (args := #[.int .i64 ((k : Int) + 1)]) (run_go_call Tryz.func30 (by kernel_rfl) (by kernel_rfl) _ _ _ _ _ _ _ _ _ _ (by simp [Act.eval, e0])) rfl ?_
          refine (KPA.out wx (E3.below hE)).mono ?_
          rintro e w' ⟨rfl, hbx⟩
          exact ⟨_, rfl, rfl, hbx⟩
        · refine grd_none rfl ?_
          have e1 := slot_eq (hdep ⟨3, .data⟩ (by simp) rfl)
          exact rel_pure _ rfl rfl (run_catB rfl rfl (by simp [Act.eval, e1]) (by simp only [ByteArray.size_append, lit_sz5, lit_sz1, lit_szn, lit_szc]; omega))
        · refine grd_none rfl ?_
          have e0 := slot_eq (hdep ⟨4, .data⟩ (by simp) rfl)
          exact rel_pure _ rfl rfl (run_catB rfl (by simp [Act.eval, e0]) rfl (by simp only [ByteArray.size_append, lit_sz5, lit_sz1, lit_szn, lit_szc]; omega))
        · refine grd_none rfl ?_
          have e0 := slot_eq (hag 5 rfl)
          exact rel_pure _ rfl rfl (by simp [go_sem, e0])
        · refine grd_none rfl ?_
          have e0 := slot_eq (hdep ⟨6, .data⟩ (by simp) rfl)
          have hq := (x9.keep hE).all.1
          exact rel_pure _ rfl rfl (by simp [go_sem, e0, hq])
        · refine grd_none rfl ?_
          have e0 := slot_eq (hdep ⟨5, .data⟩ (by simp) rfl)
          have e1 := slot_eq (hdep ⟨7, .data⟩ (by simp) rfl)
          exact rel_pure _ rfl rfl (run_catB rfl (by simp [Act.eval, e0]) (by simp [Act.eval, e1]) (by simp only [ByteArray.size_append, lit_sz5, lit_sz1, lit_szn, lit_szc]; omega))
        · refine grd_none rfl ?_
          have e0 := slot_eq (hdep ⟨8, .data⟩ (by simp) rfl)
          exact rel_pure _ rfl rfl (run_catB rfl (by simp [Act.eval, e0]) rfl (by simp only [ByteArray.size_append, lit_sz5, lit_sz1, lit_szn, lit_szc]; omega))
        · refine grd_none rfl ?_
          have e0 := slot_eq (hag 5 rfl)
          exact rel_pure _ rfl rfl (by simp [go_sem, e0])
        · refine grd_none rfl ?_
          have e0 := slot_eq (hdep ⟨10, .data⟩ (by simp) rfl)
          have hq := (x9.keep hE).all.1
          exact rel_pure _ rfl rfl (by simp [go_sem, e0, hq])
        · refine grd_none rfl ?_
          have e0 := slot_eq (hdep ⟨11, .data⟩ (by simp) rfl)
          refine rel_call (f := 30) (args := #[.int .i64 xf]) (run_go_call Tryz.func30 (by kernel_rfl) (by kernel_rfl) _ _ _ _ _ _ _ _ _ _ (by simp [Act.eval, e0])) rfl ?_
          refine (KPB.out wx (E3.below hE)).mono ?_
          rintro e w' ⟨rfl, hbx⟩
          exact ⟨_, rfl, rfl, hbx⟩
        · refine grd_none rfl ?_
          have e0 := slot_eq (hdep ⟨9, .data⟩ (by simp) rfl)
          have e1 := slot_eq (hdep ⟨12, .data⟩ (by simp) rfl)
          exact rel_pure _ rfl rfl (run_catB rfl (by simp [Act.eval, e0]) (by simp [Act.eval, e1]) (by simp only [ByteArray.size_append, lit_sz5, lit_sz1, lit_szn, lit_szc]; omega))
        · refine grd_none rfl ?_
          have e0 := slot_eq (hdep ⟨13, .data⟩ (by simp) rfl)
          exact rel_pure _ rfl rfl (run_catB rfl (by simp [Act.eval, e0]) rfl (by simp only [ByteArray.size_append, lit_sz5, lit_sz1, lit_szn, lit_szc]; omega))
        · refine grd_none rfl ?_
          have e0 := slot_eq (hag 5 rfl)
          exact rel_pure _ rfl rfl (by simp [go_sem, e0])
        · refine grd_none rfl ?_
          have e0 := slot_eq (hdep ⟨15, .data⟩ (by simp) rfl)
          have hq := (x9.keep hE).all.1
          exact rel_pure _ rfl rfl (by simp [go_sem, e0, hq])
        · refine grd_none rfl ?_
          have e0 := slot_eq (hdep ⟨14, .data⟩ (by simp) rfl)
          have e1 := slot_eq (hdep ⟨16, .data⟩ (by simp) rfl)
          exact rel_pure _ rfl rfl (run_catB rfl (by simp [Act.eval, e0]) (by simp [Act.eval, e1]) (by simp only [ByteArray.size_append, lit_sz5, lit_sz1, lit_szn, lit_szc]; omega))
        · refine grd_none rfl ?_
          have e0 := slot_eq (hdep ⟨17, .data⟩ (by simp) rfl)
          exact rel_pure _ rfl rfl (run_catB rfl (by simp [Act.eval, e0]) rfl (by simp only [ByteArray.size_append, lit_sz5, lit_sz1, lit_szn, lit_szc]; omega))
        · refine grd_none rfl ?_
          have e0 := slot_eq (hag 5 rfl)
          have hq := (x9.keep hE).all.1
          exact rel_pure _ rfl rfl (by simp [go_sem, e0, hq])
        · refine grd_none rfl ?_
          have e0 := slot_eq (hdep ⟨19, .data⟩ (by simp) rfl)
          refine rel_call (f := 35) (args := #[.agg #[.int .i64 ((k : Int) + 1), .string xs, .int .i64 xf, .string xa, .string xt, .bool xo, .slice ra rl rc]]) (run_go_call Tryz.func35 (by kernel_rfl) (by kernel_rfl) _ _ _ _ _ _ _ _ _ _ (by simp [Act.eval, e0])) rfl ?_
          refine (KST.out wx).mono ?_
          rintro e w' ⟨rfl, hbx⟩
          exact ⟨_, rfl, rfl, hbx⟩
        · refine grd_none rfl ?_
          have e0 := slot_eq (hdep ⟨18, .data⟩ (by simp) rfl)
          have e1 := slot_eq (hdep ⟨20, .data⟩ (by simp) rfl)
          exact rel_pure _ rfl rfl (run_catB rfl (by simp [Act.eval, e0]) (by simp [Act.eval, e1]) (by simp only [ByteArray.size_append, lit_sz5, lit_sz1, lit_szn, lit_szc]; omega))
        · refine grd_none rfl ?_
          have e0 := slot_eq (hdep ⟨21, .data⟩ (by simp) rfl)
          exact rel_pure _ rfl rfl (run_catB rfl (by simp [Act.eval, e0]) rfl (by simp only [ByteArray.size_append, lit_sz5, lit_sz1, lit_szn, lit_szc]; omega))
        · refine grd_none rfl ?_
          have e0 := slot_eq (hag 5 rfl)
          exact rel_pure _ rfl rfl (by simp [go_sem, e0])
        · refine grd_none rfl ?_
          have e0 := slot_eq (hdep ⟨23, .data⟩ (by simp) rfl)
          have hq := (x9.keep hE).all.1
          exact rel_pure _ rfl rfl (by simp [go_sem, e0, hq])
        · refine grd_none rfl ?_
          have e0 := slot_eq (hdep ⟨22, .data⟩ (by simp) rfl)
          have e1 := slot_eq (hdep ⟨24, .data⟩ (by simp) rfl)
          exact rel_pure _ rfl rfl (run_catB rfl (by simp [Act.eval, e0]) (by simp [Act.eval, e1]) (by simp only [ByteArray.size_append, lit_sz5, lit_sz1, lit_szn, lit_szc]; omega))
        · refine grd_none rfl ?_
          have e0 := slot_eq (hdep ⟨25, .data⟩ (by simp) rfl)
          exact rel_pure _ rfl rfl (run_catB rfl (by simp [Act.eval, e0]) rfl (by simp only [ByteArray.size_append, lit_sz5, lit_sz1, lit_szn, lit_szc]; omega))
        · refine grd_none rfl ?_
          have e0 := slot_eq (hdep ⟨0, .data⟩ (by simp) rfl)
          have e1 := slot_eq (hdep ⟨26, .data⟩ (by simp) rfl)
          exact rel_pure _ rfl rfl (run_catB rfl (by simp [Act.eval, e0]) (by simp [Act.eval, e1]) (by simp only [ByteArray.size_append, lit_sz5, lit_sz1, lit_szn, lit_szc]; omega))
      · intro t op ht hlt; cases hlt
      · intro vs wy hE hvs _
        have k27 : vs 27 = .string (OUT ++ ((⟨#[110, 111, 116, 101, 32]⟩ : ByteArray) ++ PA ++ (⟨#[32]⟩ : ByteArray) ++ xs ++ (⟨#[32]⟩ : ByteArray) ++ PB ++ (⟨#[32]⟩ : ByteArray) ++ xa ++ (⟨#[32]⟩ : ByteArray) ++ ST ++ (⟨#[58, 32]⟩ : ByteArray) ++ xt ++ (⟨#[10]⟩ : ByteArray))) := hvs 27 (by omega)
        simp only [List.drop_succ_cons, List.drop_zero, putAll, dstAt, List.getElem?_toArray, List.getElem?_cons_zero, List.getElem?_cons_succ, Option.bind_some, Act.put, List.setIfInBounds_toArray, List.set_cons_zero, List.set_cons_succ, k27]
        clear hvs k27
        replace x9 := x9.keep hE
        replace B := bcall B hE
        rw [HS.out]
        obtain ⟨O2, hO2⟩ : ∃ O, O = OUT ++ NT := ⟨_, rfl⟩
        rw [← hO2]
        have HO2 : Hid (O2 = ofL (notesT σ.notes k ++ toL NT)) := Lib.hid (by rw [hO2, HO.out, ofL_cat])
        have ho2 : O2.size ≤ 112000 * k + 1200 := by rw [hO2, ByteArray.size_append]; omega
        clear hE E3 KPA KPB KST h1 h2 h3 h4 h5 h6 HS hsz hO2 HO hos
        obtain ⟨q9, f9, l9⟩ := x9.all
        go_wp2_with fail
        clear q9 f9 l9
        go_loopw [3, 51] (fun ov iv wr => ∃ (i : Nat) (OUT : ByteArray), i ≤ rl ∧ ov = .string OUT ∧ iv = .int .i64 (i : Int) ∧ Hid (OUT = ofL (notesT σ.notes k ++ toL NT ++ repsT xr i)) ∧ OUT.size ≤ 112000 * k + 1200 + 1100 * i ∧ Below W.heap.size W wr) (fun _ iv _ => rl - (intOf iv).toNat)
        case atStart => exact ⟨0, O2, by omega, rfl, rfl, Lib.hid (by rw [HO2.out]; simp [repsT]), by omega, B⟩
        case round =>
          clear B x9 HO2 ho2
          obtain ⟨i, O3, hi, rfl, rfl, HO, hos, B⟩ := hrel
          by_cases hlt2 : i < rl
          · obtain ⟨gr, capr, er, hgl, _, _, hcell, _⟩ := Hrep.out.open (by omega)
            obtain ⟨rfl, rfl⟩ : ra = some ⟨gr, 0, none⟩ ∧ rc = capr := by cases er; exact ⟨rfl, rfl⟩
            have z1 := (B.cell (p := ⟨gr, i * 2, none⟩) hgl).trans (hcell i 0 hlt2 (by omega))
            have z2 := (B.cell (p := ⟨gr, i * 2 + 1, none⟩) hgl).trans (hcell i 1 hlt2 (by omega))
            have hir : i < xr.length := by rw [← Hrl2.out]; exact hlt2
            have hw := HWN.out.reps.2 _ (rAt_mem hir)
            have hsz := replyB_size hw.1 hw.2.2
            have h1 := (name_sz hw.1).2
            have h2 := text_sz hw.2.2
            have hrs := repsT_succ xr i
            have hS : (⟨#[114, 101, 112, 108, 121, 32]⟩ : ByteArray) ++ (rAt xr i).author ++ (⟨#[58, 32]⟩ : ByteArray) ++ (rAt xr i).text ++ (⟨#[10]⟩ : ByteArray) = replyB (rAt xr i) := rfl
            dsimp only [rcell] at z1 z2
            generalize replyB (rAt xr i) = RT at *
            generalize (rAt xr i).author = ya at *
            generalize (rAt xr i).text = yt at *
            have HS := Lib.hid hS
            have HSU2 := Lib.hid hrs
            have hii : (i : Int) < (rl : Int) := by omega
            clear er hcell hw hS hrs
            go_upto_region 9 with fail
            refine name_world ?_
            intro w5 hw5
            obtain ⟨p8, hp8⟩ : ∃ p, p = wr.heap.size := ⟨_, rfl⟩
            have x8 : Bx w5 p8 74 #[.string ya, .string yt] := by rw [hw5, hp8]; exact Bx.new _ _ _
            have b5 : Below wr.heap.size wr w5 := by rw [hw5]; exact bnew (Below.refl _ _)
            replace B := bcall B b5
            rw [← hp8]
            clear hw5 hp8 b5 z1 z2
            obtain ⟨q8, f8, l8⟩ := x8.all
            have s6 := lit_sz6
            have s2 := lit_szc
            have s1 := lit_szn
            go_wp2_with fail
            rw [HS.out]
            obtain ⟨O4, hO4⟩ : ∃ O, O = O3 ++ RT := ⟨_, rfl⟩
            rw [← hO4]
            have HO4 : Hid (O4 = ofL (notesT σ.notes k ++ toL NT ++ repsT xr (i + 1))) := Lib.hid (by rw [hO4, HO.out, ofL_cat, HSU2.out, ← List.append_assoc])
            have ho4 : O4.size ≤ 112000 * k + 1200 + 1100 * (i + 1) := by rw [hO4, ByteArray.size_append]; omega
            clear x8 q8 f8 l8 s6 s2 s1 HO hos hO4
            go_roundw
            case rel => exact ⟨i + 1, O4, by omega, rfl, by go_num, HO4, ho4, B⟩
            case measure => simp [intOf]; omega
          · obtain rfl : i = rl := by omega
            have HO4 : Hid (O3 = ofL (notesT σ.notes (k + 1))) := Lib.hid (by rw [HSU.out, HO.out, ← List.append_assoc, ← Hrl2.out])
            go_wp2_with fail
            go_roundw
            case rel => exact ⟨k + 1, O3, by omega, rfl, by go_num, HO4, by omega, B⟩
            case measure => simp [intOf]; omega
    · obtain rfl : k = n0 := by omega
      have hmap := (H.out.keep B).map
      have hmlt := hmap.lt
      obtain ⟨A, hA⟩ : ∃ A, A = σ.appr := ⟨_, rfl⟩
      have HA := Lib.hid hA
      rw [← hA] at hmap hal
      obtain ⟨hnd, hsz, es, hown, hperm⟩ := hmap
      have Hperm := Lib.hid hperm
      have Hown := Lib.hid hown
      have Hnd := Lib.hid hnd
      have hbx := (H.out.keep B).bx
      obtain ⟨q, f, l⟩ := hbx.all
      clear hnd hsz hperm hA
      obtain ⟨r, hr⟩ : ∃ r, r = wr.heap.size := ⟨_, rfl⟩
      go_wp2_with (at_range; refine wpList_range_own _ rfl _ 44 rfl 9 9 strK Tryz.underlying44 _ m A.length _ rfl hown ?_; intro w0 hrg0 hg0 hs0)
      rw [← hr] at hrg0 hmlt hs0 ⊢
      have B0 : Below W.heap.size W w0 := B.grown hg0 B.size (fun g hg => by cases hg)
      have hWr : W.heap.size ≤ r := by have := B.size; omega
      go_frame
      clear q f l hown hbx B hr hg0
      go_loopw [8] (fun v wr => ∃ (left : Lit → Bool) (cnt : Nat) (ks : List ByteArray), wr.ranges Tryz.prog 9 (plainElem Tryz.prog 9) m r A.length (.map es) left cnt ∧ OwnS (r + 1) wr v (ks.map fun s => apprB (s, apprOf A s)) ∧ Hid (Collected (.map es) left (ks.map fun x => x.data.toList)) ∧ ks.length + cnt ≤ A.length ∧ Below W.heap.size W wr ∧ r + 1 ≤ wr.heap.size) (fun _ wr => wr.rangeLeft m r)
      case atStart =>
        refine ⟨_, _, [], hrg0, World.ownsRow_nil _ _ _ _, Lib.hid (Collected.start _), ?_, B0, by omega⟩
        have := Hperm.out.length_eq
        simp [Maps.size] at this ⊢
        omega
      case round =>
        obtain ⟨left, cnt, ks, hrg, own, HC, hle, B, hsz⟩ := hrel
        clear hrg0 hs0 B0
        go_wp2_with (at_next; refine next_ss _ rfl _ rfl m r A.length _ _ _ rfl hrg ?_ ?_)
        · intro hl0
          have hks := (HC.out.perm Hown.out strK Tryz.underlying9 hl0).trans (strKeys_perm Hperm.out)
          have hp2 := unL hks (T := A.map (·.1)) (by rw [List.map_map]; rfl)
          have he : srtS (ks.map fun s => apprB (s, apprOf A s)) = (shotsL A).map fun s => apprB (s, apprOf A s) := by
            have := lines_srt HW.out (ks := ks) (by rw [← HA.out]; exact hp2)
            rwa [← HA.out] at this
          have hj := appr_join A
          have hl3 : (apprsT A A.length).length ≤ 100 * A.length := by
            have := apprsT_len HW.out σ.appr.length (Nat.le_refl _)
            rwa [← HA.out] at this
          have htx : textS σ = notesT σ.notes k ++ apprsT A A.length := by unfold textS; rw [← Hn.out, HA.out]
          have hnl : (ks.map fun s => apprB (s, apprOf A s)).length = ((shotsL A).map fun s => apprB (s, apprOf A s)).length := by rw [← he, srtS_len]
          have hLl : ((shotsL A).map fun s => apprB (s, apprOf A s)).length = A.length := by rw [List.length_map, shotsL_len]
          have HTX := Lib.hid htx
          clear hrg hks htx hp2
          rcases own.form with ⟨h0, rfl⟩ | ⟨g, cap, rfl, hg, hgl, hcap, _⟩
          · have hA0 : (shotsL A).map (fun s => apprB (s, apprOf A s)) = [] := by rw [← he, h0]; exact List.eq_nil_of_length_eq_zero (by rw [srtS_len]; rfl)
            rw [hA0] at hj
            have HJ := Lib.hid hj
            have s0 : (⟨#[]⟩ : ByteArray).size = 0 := rfl
            clear hj own he hnl hLl hA0 h0
            go_wp2_with fail
            refine (Tryz.slices_Sort_string_none none 0 _).mono ?_
            rintro e w' ⟨rfl, rfl⟩
            go_wp2_with fail
            refine (Tryz.strings_Join_none none 0 ⟨#[]⟩ _).mono ?_
            rintro e w2 ⟨rfl, rfl⟩
            go_wp2_with fail
            go_ret
            refine ⟨?_, B⟩
            rw [HTX.out, HO.out, ofL_cat, ← HJ.out]
            rfl
          · have hc := sort_reels own (by omega)
            rw [he, hnl] at hc
            rw [hnl] at hcap ⊢
            obtain ⟨LS, hLS⟩ : ∃ L, L = (shotsL A).map fun s => apprB (s, apprOf A s) := ⟨_, rfl⟩
            rw [← hLS] at hc hcap hj hLl ⊢
            have HLl := Lib.hid hLl
            clear own he hnl hLS hLl
            go_wp2_with fail
            refine hc.mono ?_
            rintro e w' ⟨rfl, own', ho⟩
            have B2 := oth_below B ho (by omega)
            have hcs : ∀ j, j < LS.length → w'.cell? ⟨g, j, none⟩ = some (.string (LS.getD j default)) := by
              rcases own'.form with ⟨h0, _⟩ | ⟨g', cap', e1, _, _, _, h4⟩
              · intro j hj; rw [h0] at hj; simp at hj
              · cases e1; exact h4
            have hg2 : g < w'.heap.size := Nat.lt_of_lt_of_le hgl ho.size
            have KJ := Lib.hid (Tryz.strings_Join g 0 cap LS ⟨#[]⟩ w' (fun j x hx => by
              have hjl : j < LS.length := (List.getElem?_eq_some_iff.1 hx).1
              rw [Nat.zero_add, hcs j hjl, List.getD_eq_getElem?_getD, hx]; rfl) hg2 (by rw [HLl.out]; omega) hcap (by
                have : Lib.join (LS.map (·.data.toList)) (⟨#[]⟩ : ByteArray).data.toList = apprsT A A.length := hj
                rw [this]; omega))
            have hjb : (⟨(Lib.join (LS.map (·.data.toList)) (⟨#[]⟩ : ByteArray).data.toList).toArray⟩ : ByteArray) = ofL (apprsT A A.length) := congrArg ofL hj
            rw [hjb] at KJ
            have hjs : (ofL (apprsT A A.length)).size ≤ 100 * A.length := by rw [ofL_size]; exact hl3
            obtain ⟨JS, hJS⟩ : ∃ J, J = ofL (apprsT A A.length) := ⟨_, rfl⟩
            rw [← hJS] at KJ hjs
            have HJS := Lib.hid hJS
            clear hj hjb hJS hc own' hcs ho B
            go_wp2_with fail
            refine KJ.out.mono ?_
            rintro e w2 ⟨rfl, hb⟩
            have B3 := bcall B2 hb
            go_wp2_with fail
            go_ret
            refine ⟨?_, B3⟩
            have e7 : OUT ++ JS = ofL (notesT σ.notes k ++ apprsT A A.length) := by
              rw [HO.out, ofL_cat, HJS.out]
              exact congrArg ofL (congrArg _ (ofL_list _))
            rw [HTX.out, ← e7]
            rfl
        · intro x cc w1 cnt1 hx hlx hat hrg1 hlt hg1 hen
          have own1 := own_keepg own fun g hg hlt' => hg1.block g hlt' (fun e => by
            have := (OwnS.base own g hg).1
            simp only [Option.some.injEq] at e
            omega)
          have B1 : Below W.heap.size W w1 := B.grown hg1 (by omega) (fun g hg => by simp only [Option.some.injEq] at hg; omega)
          have hs1 := hg1.size
          have HC1 := Lib.hid (HC.out.step hlx hat)
          have Hlm := Lib.hid hrg.left_eq
          have hen2 := appr_entry Hnd.out Hperm.out hat
          obtain ⟨e1, pe, hpe, e2, e3⟩ := hen2
          have hw := HW.out.appr pe (by rw [← HA.out]; exact hpe)
          rw [e2, e3] at hw
          have h1 := (name_sz hw.1).2
          have h2 := (name_sz hw.2.1).2
          have s9 := lit_sz9
          have s1 := lit_sz1
          have sn := lit_szn
          have HE1 := Lib.hid e1
          have hkl : (ks.map fun s => apprB (s, apprOf A s)).length = ks.length := List.length_map _
          have hmr : ∀ g, u8.ownBlock = some g → g ≠ m ∧ g ≠ r := fun g hg => by have := (OwnS.base own g hg).1; omega
          clear B own hrg hlx hat HC e1 hpe hw e2 e3
          obtain ⟨ls, hls⟩ : ∃ l, l = ks.map fun s => apprB (s, apprOf A s) := ⟨_, rfl⟩
          rw [← hls] at own1 hkl
          have HLS := Lib.hid hls
          clear hls
          go_wp2_with (at_builtin; refine str_append (B := r + 1) (p := (⟨#[97, 112, 112, 114, 111, 118, 101, 100, 32]⟩ : ByteArray) ++ x ++ (⟨#[32]⟩ : ByteArray) ++ cc ++ (⟨#[10]⟩ : ByteArray)) rfl (.tmp 77) (.tmp 84) rfl rfl w1.heap.size rfl (OwnS.keep own1 (bnew (Below.refl _ _))) (Bx.new _ _ _) (by omega) (by simp; omega) ?_)
          intro v' w2 own2 ap
          have hrg2 := own_ranges (hrg1.alloc _) ap hmr
          have B2 : Below W.heap.size W w2 := ap.below (B1.alloc (by omega) _) (by omega) (by simp; omega) (fun g hg => by have := (OwnS.base own1 g hg).1; omega)
          have hs2 : r + 1 ≤ w2.heap.size := by have := ap.size; simp at this; omega
          have own3 : OwnS (r + 1) w2 v' ((ks ++ [x]).map fun s => apprB (s, apprOf A s)) := by
            rw [List.map_append, ← HLS.out, List.map_singleton, HE1.out]
            exact own2
          clear own1 own2 B1 hrg1 ap hen hg1 s9 s1 sn
          go_wp2_with fail
          go_roundw
          case rel => exact ⟨_, cnt1, ks ++ [x], hrg2, own3, Lib.hid (by rw [List.map_append]; exact HC1.out), by rw [List.length_append, List.length_singleton]; omega, B2, hs2⟩
          case measure => rw [hrg2.left_eq, Hlm.out]; exact hlt
end Go.Proofs.YtilninaminaadaaGreatDoor

