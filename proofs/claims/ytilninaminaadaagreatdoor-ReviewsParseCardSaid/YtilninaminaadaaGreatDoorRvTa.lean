/- conform's Review: Text. (printed by gen_rvt.py) -/
import Derived.Test.YtilninaminaadaaGreatDoorRvTp
import Derived.Test.YtilninaminaadaaGreatDoorRvH
import Derived.Test.YtilninaminaadaaGreatDoorGrd
namespace Go.Proofs.YtilninaminaadaaGreatDoor
open Go.RowKit

set_option maxRecDepth 100000 in
set_option maxHeartbeats 16000000 in
theorem conform_Text (p : Nat) (σ : Rv) (F : Nat → Prop) (vn : Value) (m : Nat) (rv : Nat → Value) (W : World) (h : VO W p σ F vn m rv) (wf : Wf σ) (hal : σ.appr.length ≤ 1000000000) (E : EnvT W) :
    Calls Tryz.prog 9 #[.pointer (some ⟨p, 0, none⟩)] W fun e w' => e = .returned (.string (ofL (textS σ))) ∧ Below W.heap.size W w' := by
  have hlen := wf.len
  have HW := Lib.hid wf
  have HN : Hid (∀ k, k ≤ σ.notes.length → (notesT σ.notes k).length ≤ 112000 * k) := Lib.hid (notesT_len wf)
  obtain ⟨a, c, rfl, _⟩ := h.row.form
  have H := Lib.hid h
  obtain ⟨n0, hn⟩ : ∃ n, n = σ.notes.length := ⟨_, rfl⟩
  rw [← hn] at H hlen HN
  have Hn := Lib.hid hn
  have hbx := h.bx
  rw [← hn] at hbx
  clear wf hn
  have hplt := hbx.lt
  go_enter Tryz.func9, Tryz.ntmps9
  go_upto_region 2 with fail
  refine name_world ?_
  intro w0 hw0
  obtain ⟨pB, hpB⟩ : ∃ g, g = W.heap.size := ⟨_, rfl⟩
  have bt : BT pB [] w0 := by rw [hw0, hpB]; exact Lib.fresh_isBuilder _ _ _
  have B0 : Below W.heap.size W w0 := by rw [hw0]; exact bnew (Below.refl _ _)
  replace hbx := hbx.keep B0
  rw [← hpB]
  have hWB : W.heap.size ≤ pB := by omega
  have HpB := Lib.hid hpB
  clear hw0 hpB h
  obtain ⟨q, f, l⟩ := hbx.all
  go_wp2_with fail
  clear q f l
  go_loopw [16] (fun i wr => ∃ k : Nat, k ≤ n0 ∧ i = .int .i64 (k : Int) ∧ BT pB (notesT σ.notes k) wr ∧ Below W.heap.size W wr) (fun i _ => n0 - (intOf i).toNat)
  case atStart => exact ⟨0, by omega, rfl, by simpa [notesT] using bt, B0⟩
  case round =>
    clear bt B0 hbx
    obtain ⟨k, hk, rfl, bt, B⟩ := hrel
    by_cases hlt : k < n0
    · have hks : k < σ.notes.length := by rw [← Hn.out]; exact hlt
      obtain ⟨g, cap, eg, hg, hfz, c0, c1, c2, c3, c4, c5, c6, c7, c8⟩ := (H.out.keep B).at hks
      obtain ⟨rfl, rfl⟩ : a = some ⟨g, 0, none⟩ ∧ c = cap := by cases eg; exact ⟨rfl, rfl⟩
      have hwn := HW.out.notes _ (nAt_mem hks)
      have hsucc := notesT_succ σ.notes k
      unfold noteT at hsucc
      have hrep := H.out.reps k hks
      obtain ⟨ra, rc, er, _, _⟩ := hrep.form
      rw [er] at c6 hrep
      have hl1 := HN.out k (by omega)
      generalize hx : nAt σ.notes k = x at *
      obtain ⟨xs, xf, xa, xt, xo, xr, xc, xd⟩ := x
      have hrl := hwn.reps.1
      have h1 := (name_sz hwn.shot).2
      have h2 := (name_sz hwn.author).2
      have h3 := text_sz hwn.text.2
      have h4 := itB_size ((k : Int) + 1) (by omega) (by omega)
      have h5 := itB_size xf hwn.frame.1 hwn.frame.2
      have h6 := stB_size xo
      have KPA := Lib.hid (fun w E => itB_call ((k : Int) + 1) (by omega) (by omega) w E)
      have KPB := Lib.hid (fun w E => itB_call xf hwn.frame.1 hwn.frame.2 w E)
      have hsz := noteB_size (show k ≤ 2000 by omega) hwn
      have hS : (⟨#[110, 111, 116, 101, 32]⟩ : ByteArray) ++ itB ((k : Int) + 1) ++ (⟨#[32]⟩ : ByteArray) ++ xs ++ (⟨#[32]⟩ : ByteArray) ++ itB xf ++ (⟨#[32]⟩ : ByteArray) ++ xa ++ (⟨#[32]⟩ : ByteArray) ++ stB xo ++ (⟨#[58, 32]⟩ : ByteArray) ++ xt ++ (⟨#[10]⟩ : ByteArray) = ofL (toL (noteB k ⟨xs, xf, xa, xt, xo, xr, xc, xd⟩)) := ofL_toL _
      have HWN := Lib.hid hwn
      clear hwn
      dsimp only at c0 c1 c2 c3 c4 c5 c6 c7 c8 h1 h2 h3 hrl hsucc
      rw [← toL_len] at hsz
      generalize toL (noteB k ⟨xs, xf, xa, xt, xo, xr, xc, xd⟩) = NT at *
      generalize itB ((k : Int) + 1) = PA at *
      generalize itB xf = PB at *
      obtain ⟨ST, hST⟩ : ∃ ST, ST = stB xo := ⟨_, rfl⟩
      rw [← hST] at h6 hS
      have HS := Lib.hid hS
      have HSU := Lib.hid hsucc
      have hki : (k : Int) < (n0 : Int) := by omega
      obtain ⟨rl, hrl2⟩ : ∃ rl, rl = xr.length := ⟨_, rfl⟩
      rw [← hrl2] at c6 hrl
      replace hrep : RowN W 74 2 (.slice ra rl rc) rl (rcell xr) := by rw [hrl2]; exact hrep
      have Hrep := Lib.hid hrep
      have Hrl2 := Lib.hid hrl2
      clear eg er hrep hrl2 hx hS hsucc
      go_upto_region 5 with fail
      refine name_world ?_
      intro w3 hw3
      obtain ⟨p9, hp9⟩ : ∃ p, p = wr.heap.size := ⟨_, rfl⟩
      have x9 : Bx w3 p9 67 #[.int .i64 ((k : Int) + 1), .string xs, .int .i64 xf, .string xa, .string xt, .bool xo, .slice ra rl rc, .string xc, .int .i64 xd] := by rw [hw3, hp9]; exact Bx.new _ _ _
      have b3 : Below wr.heap.size wr w3 := by rw [hw3]; exact bnew (Below.refl _ _)
      have hB9 : pB ≠ p9 := by have := bt.lt; omega
      replace bt := bt.keep b3
      replace B := bcall B b3
      rw [← hp9]
      have E3 := E.below B
      clear hw3 c0 c1 c2 c3 c4 c5 c6 c7 c8 hfz hg hp9 b3
      obtain ⟨q9, f9, l9⟩ := x9.all
      cases xo
      · have hst : (⟨#[99, 108, 111, 115, 101, 100]⟩ : ByteArray) = ST := hST.symm
        go_upto_region 8 with fail
        rw [hst]
        clear hst hST
        clear q9 f9
        refine wp_region_grd 30 (fun _ => false) (fun q u w' => u = [.pointer (some ⟨p9, 0, none⟩), .pointer (some ⟨p9, 0, none⟩), .int .i64 ((k : Int) + 1), .string PA, .string ((⟨#[110, 111, 116, 101, 32]⟩ : ByteArray) ++ PA), .string ((⟨#[110, 111, 116, 101, 32]⟩ : ByteArray) ++ PA ++ (⟨#[32]⟩ : ByteArray)), .pointer (some ⟨p9, 0, none⟩), .pointer (some ⟨p9, 1, none⟩), .string xs, .string ((⟨#[110, 111, 116, 101, 32]⟩ : ByteArray) ++ PA ++ (⟨#[32]⟩ : ByteArray) ++ xs), .string ((⟨#[110, 111, 116, 101, 32]⟩ : ByteArray) ++ PA ++ (⟨#[32]⟩ : ByteArray) ++ xs ++ (⟨#[32]⟩ : ByteArray)), .pointer (some ⟨p9, 0, none⟩), .pointer (some ⟨p9, 2, none⟩), .int .i64 xf, .string PB, .string ((⟨#[110, 111, 116, 101, 32]⟩ : ByteArray) ++ PA ++ (⟨#[32]⟩ : ByteArray) ++ xs ++ (⟨#[32]⟩ : ByteArray) ++ PB), .string ((⟨#[110, 111, 116, 101, 32]⟩ : ByteArray) ++ PA ++ (⟨#[32]⟩ : ByteArray) ++ xs ++ (⟨#[32]⟩ : ByteArray) ++ PB ++ (⟨#[32]⟩ : ByteArray)), .pointer (some ⟨p9, 0, none⟩), .pointer (some ⟨p9, 3, none⟩), .string xa, .string ((⟨#[110, 111, 116, 101, 32]⟩ : ByteArray) ++ PA ++ (⟨#[32]⟩ : ByteArray) ++ xs ++ (⟨#[32]⟩ : ByteArray) ++ PB ++ (⟨#[32]⟩ : ByteArray) ++ xa), .string ((⟨#[110, 111, 116, 101, 32]⟩ : ByteArray) ++ PA ++ (⟨#[32]⟩ : ByteArray) ++ xs ++ (⟨#[32]⟩ : ByteArray) ++ PB ++ (⟨#[32]⟩ : ByteArray) ++ xa ++ (⟨#[32]⟩ : ByteArray)), .string ST, .string ((⟨#[110, 111, 116, 101, 32]⟩ : ByteArray) ++ PA ++ (⟨#[32]⟩ : ByteArray) ++ xs ++ (⟨#[32]⟩ : ByteArray) ++ PB ++ (⟨#[32]⟩ : ByteArray) ++ xa ++ (⟨#[32]⟩ : ByteArray) ++ ST), .string ((⟨#[110, 111, 116, 101, 32]⟩ : ByteArray) ++ PA ++ (⟨#[32]⟩ : ByteArray) ++ xs ++ (⟨#[32]⟩ : ByteArray) ++ PB ++ (⟨#[32]⟩ : ByteArray) ++ xa ++ (⟨#[32]⟩ : ByteArray) ++ ST ++ (⟨#[58, 32]⟩ : ByteArray)), .pointer (some ⟨p9, 0, none⟩), .pointer (some ⟨p9, 4, none⟩), .string xt, .string ((⟨#[110, 111, 116, 101, 32]⟩ : ByteArray) ++ PA ++ (⟨#[32]⟩ : ByteArray) ++ xs ++ (⟨#[32]⟩ : ByteArray) ++ PB ++ (⟨#[32]⟩ : ByteArray) ++ xa ++ (⟨#[32]⟩ : ByteArray) ++ ST ++ (⟨#[58, 32]⟩ : ByteArray) ++ xt), .string ((⟨#[110, 111, 116, 101, 32]⟩ : ByteArray) ++ PA ++ (⟨#[32]⟩ : ByteArray) ++ xs ++ (⟨#[32]⟩ : ByteArray) ++ PB ++ (⟨#[32]⟩ : ByteArray) ++ xa ++ (⟨#[32]⟩ : ByteArray) ++ ST ++ (⟨#[58, 32]⟩ : ByteArray) ++ xt ++ (⟨#[10]⟩ : ByteArray))].getD q undef) (fun _ => false) (fun w' => Below w3.heap.size w3 w') (by kernel_rfl) (by kernel_rfl) (fun _ _ _ _ _ h => h)
          (fun _ _ h e => e.trans (h.mono e.size)) (fun t u a' b' hb h => ?_) (Below.refl _ _).drew ?_ ?_ ?_
        · exact h
        · intro t op ht hlt hop
          clear hlt
          rcases (by omega : t = 0 ∨ t = 1 ∨ t = 2 ∨ t = 3 ∨ t = 4 ∨ t = 5 ∨ t = 6 ∨ t = 7 ∨ t = 8 ∨ t = 9 ∨ t = 10 ∨ t = 11 ∨ t = 12 ∨ t = 13 ∨ t = 14 ∨ t = 15 ∨ t = 16 ∨ t = 17 ∨ t = 18 ∨ t = 19 ∨ t = 20 ∨ t = 21 ∨ t = 22 ∨ t = 23 ∨ t = 24 ∨ t = 25 ∨ t = 26 ∨ t = 27 ∨ t = 28 ∨ t = 29) with rfl | rfl | rfl | rfl | rfl | rfl | rfl | rfl | rfl | rfl | rfl | rfl | rfl | rfl | rfl | rfl | rfl | rfl | rfl | rfl | rfl | rfl | rfl | rfl | rfl | rfl | rfl | rfl | rfl | rfl
          all_goals simp only [List.getElem?_cons_zero, List.getElem?_cons_succ, Option.some.injEq] at hop
          all_goals subst hop
          all_goals intro a wx hE hag hdep
          · refine grd_none rfl ?_
            have e0 := slot_eq (hag 5 rfl)
            exact rel_pure _ rfl rfl (by simp [go_sem, e0])
          · refine grd_none rfl ?_
            have e0 := slot_eq (hdep ⟨0, .data⟩ (by simp) rfl)
            exact rel_pure _ rfl rfl (by simp [go_sem, e0])
          · refine grd_none rfl ?_
            have e0 := slot_eq (hdep ⟨1, .data⟩ (by simp) rfl)
            have hq := (x9.keep hE).all.1
            exact rel_pure _ rfl rfl (by simp [go_sem, e0, hq])
          · refine grd_none rfl ?_
            have e0 := slot_eq (hdep ⟨2, .data⟩ (by simp) rfl)
            refine rel_call (f := 30) (args := #[.int .i64 ((k : Int) + 1)]) (run_go_call Tryz.func30 (by kernel_rfl) (by kernel_rfl) _ _ _ _ _ _ _ _ _ _ (by simp [Act.eval, e0])) rfl ?_
            refine (KPA.out wx (E3.below hE)).mono ?_
            rintro e w' ⟨rfl, hbx⟩
            exact ⟨_, rfl, rfl, hbx⟩
          · refine grd_none rfl ?_
            have e1 := slot_eq (hdep ⟨3, .data⟩ (by simp) rfl)
            exact rel_pure _ rfl rfl (run_catB rfl rfl (by simp [Act.eval, e1]) (by simp only [ByteArray.size_append, lit_sz5, lit_sz1, lit_szn, lit_szc]; omega))
          · refine grd_none rfl ?_
            have e0 := slot_eq (hdep ⟨4, .data⟩ (by simp) rfl)
            exact rel_pure _ rfl rfl (run_catB rfl (by simp [Act.eval, e0]) rfl (by simp only [ByteArray.size_append, lit_sz5, lit_sz1, lit_szn, lit_szc]; omega))
          · refine grd_none rfl ?_
            have e0 := slot_eq (hag 5 rfl)
            exact rel_pure _ rfl rfl (by simp [go_sem, e0])
          · refine grd_none rfl ?_
            have e0 := slot_eq (hdep ⟨6, .data⟩ (by simp) rfl)
            exact rel_pure _ rfl rfl (by simp [go_sem, e0])
          · refine grd_none rfl ?_
            have e0 := slot_eq (hdep ⟨7, .data⟩ (by simp) rfl)
            have hq := (x9.keep hE).all.1
            exact rel_pure _ rfl rfl (by simp [go_sem, e0, hq])
          · refine grd_none rfl ?_
            have e0 := slot_eq (hdep ⟨5, .data⟩ (by simp) rfl)
            have e1 := slot_eq (hdep ⟨8, .data⟩ (by simp) rfl)
            exact rel_pure _ rfl rfl (run_catB rfl (by simp [Act.eval, e0]) (by simp [Act.eval, e1]) (by simp only [ByteArray.size_append, lit_sz5, lit_sz1, lit_szn, lit_szc]; omega))
          · refine grd_none rfl ?_
            have e0 := slot_eq (hdep ⟨9, .data⟩ (by simp) rfl)
            exact rel_pure _ rfl rfl (run_catB rfl (by simp [Act.eval, e0]) rfl (by simp only [ByteArray.size_append, lit_sz5, lit_sz1, lit_szn, lit_szc]; omega))
          · refine grd_none rfl ?_
            have e0 := slot_eq (hag 5 rfl)
            exact rel_pure _ rfl rfl (by simp [go_sem, e0])
          · refine grd_none rfl ?_
            have e0 := slot_eq (hdep ⟨11, .data⟩ (by simp) rfl)
            exact rel_pure _ rfl rfl (by simp [go_sem, e0])
          · refine grd_none rfl ?_
            have e0 := slot_eq (hdep ⟨12, .data⟩ (by simp) rfl)
            have hq := (x9.keep hE).all.1
            exact rel_pure _ rfl rfl (by simp [go_sem, e0, hq])
          · refine grd_none rfl ?_
            have e0 := slot_eq (hdep ⟨13, .data⟩ (by simp) rfl)
            refine rel_call (f := 30) (args := #[.int .i64 xf]) (run_go_call Tryz.func30 (by kernel_rfl) (by kernel_rfl) _ _ _ _ _ _ _ _ _ _ (by simp [Act.eval, e0])) rfl ?_
            refine (KPB.out wx (E3.below hE)).mono ?_
            rintro e w' ⟨rfl, hbx⟩
            exact ⟨_, rfl, rfl, hbx⟩
          · refine grd_none rfl ?_
            have e0 := slot_eq (hdep ⟨10, .data⟩ (by simp) rfl)
            have e1 := slot_eq (hdep ⟨14, .data⟩ (by simp) rfl)
            exact rel_pure _ rfl rfl (run_catB rfl (by simp [Act.eval, e0]) (by simp [Act.eval, e1]) (by simp only [ByteArray.size_append, lit_sz5, lit_sz1, lit_szn, lit_szc]; omega))
          · refine grd_none rfl ?_
            have e0 := slot_eq (hdep ⟨15, .data⟩ (by simp) rfl)
            exact rel_pure _ rfl rfl (run_catB rfl (by simp [Act.eval, e0]) rfl (by simp only [ByteArray.size_append, lit_sz5, lit_sz1, lit_szn, lit_szc]; omega))
          · refine grd_none rfl ?_
            have e0 := slot_eq (hag 5 rfl)
            exact rel_pure _ rfl rfl (by simp [go_sem, e0])
          · refine grd_none rfl ?_
            have e0 := slot_eq (hdep ⟨17, .data⟩ (by simp) rfl)
            exact rel_pure _ rfl rfl (by simp [go_sem, e0])
          · refine grd_none rfl ?_
            have e0 := slot_eq (hdep ⟨18, .data⟩ (by simp) rfl)
            have hq := (x9.keep hE).all.1
            exact rel_pure _ rfl rfl (by simp [go_sem, e0, hq])
          · refine grd_none rfl ?_
            have e0 := slot_eq (hdep ⟨16, .data⟩ (by simp) rfl)
            have e1 := slot_eq (hdep ⟨19, .data⟩ (by simp) rfl)
            exact rel_pure _ rfl rfl (run_catB rfl (by simp [Act.eval, e0]) (by simp [Act.eval, e1]) (by simp only [ByteArray.size_append, lit_sz5, lit_sz1, lit_szn, lit_szc]; omega))
          · refine grd_none rfl ?_
            have e0 := slot_eq (hdep ⟨20, .data⟩ (by simp) rfl)
            exact rel_pure _ rfl rfl (run_catB rfl (by simp [Act.eval, e0]) rfl (by simp only [ByteArray.size_append, lit_sz5, lit_sz1, lit_szn, lit_szc]; omega))
          · refine grd_none rfl ?_
            have e0 := slot_eq (hag 6 rfl)
            exact rel_pure _ rfl rfl (by simp [go_sem, e0])
          · refine grd_none rfl ?_
            have e0 := slot_eq (hdep ⟨21, .data⟩ (by simp) rfl)
            have e1 := slot_eq (hdep ⟨22, .data⟩ (by simp) rfl)
            exact rel_pure _ rfl rfl (run_catB rfl (by simp [Act.eval, e0]) (by simp [Act.eval, e1]) (by simp only [ByteArray.size_append, lit_sz5, lit_sz1, lit_szn, lit_szc]; omega))
          · refine grd_none rfl ?_
            have e0 := slot_eq (hdep ⟨23, .data⟩ (by simp) rfl)
            exact rel_pure _ rfl rfl (run_catB rfl (by simp [Act.eval, e0]) rfl (by simp only [ByteArray.size_append, lit_sz5, lit_sz1, lit_szn, lit_szc]; omega))
          · refine grd_none rfl ?_
            have e0 := slot_eq (hag 5 rfl)
            exact rel_pure _ rfl rfl (by simp [go_sem, e0])
          · refine grd_none rfl ?_
            have e0 := slot_eq (hdep ⟨25, .data⟩ (by simp) rfl)
            exact rel_pure _ rfl rfl (by simp [go_sem, e0])
          · refine grd_none rfl ?_
            have e0 := slot_eq (hdep ⟨26, .data⟩ (by simp) rfl)
            have hq := (x9.keep hE).all.1
            exact rel_pure _ rfl rfl (by simp [go_sem, e0, hq])
          · refine grd_none rfl ?_
            have e0 := slot_eq (hdep ⟨24, .data⟩ (by simp) rfl)
            have e1 := slot_eq (hdep ⟨27, .data⟩ (by simp) rfl)
            exact rel_pure _ rfl rfl (run_catB rfl (by simp [Act.eval, e0]) (by simp [Act.eval, e1]) (by simp only [ByteArray.size_append, lit_sz5, lit_sz1, lit_szn, lit_szc]; omega))
          · refine grd_none rfl ?_
            have e0 := slot_eq (hdep ⟨28, .data⟩ (by simp) rfl)
            exact rel_pure _ rfl rfl (run_catB rfl (by simp [Act.eval, e0]) rfl (by simp only [ByteArray.size_append, lit_sz5, lit_sz1, lit_szn, lit_szc]; omega))
        · intro t op ht hlt; cases hlt
        · intro vs wy hE hvs _
          have k29 : vs 29 = .string ((⟨#[110, 111, 116, 101, 32]⟩ : ByteArray) ++ PA ++ (⟨#[32]⟩ : ByteArray) ++ xs ++ (⟨#[32]⟩ : ByteArray) ++ PB ++ (⟨#[32]⟩ : ByteArray) ++ xa ++ (⟨#[32]⟩ : ByteArray) ++ ST ++ (⟨#[58, 32]⟩ : ByteArray) ++ xt ++ (⟨#[10]⟩ : ByteArray)) := hvs 29 (by omega)
          simp only [List.drop_succ_cons, List.drop_zero, putAll, dstAt, List.getElem?_toArray, List.getElem?_cons_zero, List.getElem?_cons_succ, Option.bind_some, Act.put, List.setIfInBounds_toArray, List.set_cons_zero, List.set_cons_succ, k29]
          clear hvs k29
          replace bt := bt.keep hE
          replace x9 := x9.keep hE
          replace B := bcall B hE
          clear hE E3 KPA KPB h1 h2 h3 h4 h5 h6
          go_wp2_with fail
          refine (bt_writeB pB (notesT σ.notes k) NT _ _ HS.out bt (by omega)).mono ?_
          rintro e w4 ⟨⟨nw, rfl⟩, bt2, Bw, ap⟩
          replace x9 := ap _ _ _ (by decide) (fun h => hB9 h.symm) x9
          replace B := B.trans (Bw.mono hWB)
          replace bt := bt2
          have hl2 : (notesT σ.notes k ++ NT).length ≤ 112000 * k + 1200 := by rw [List.length_append]; omega
          obtain ⟨base, hbase⟩ : ∃ b, b = notesT σ.notes k ++ NT := ⟨_, rfl⟩
          rw [← hbase] at bt hl2
          have HBASE := Lib.hid hbase
          clear hbase
          clear bt2 Bw ap HS hl1 hsz
          obtain ⟨q9, f9, l9⟩ := x9.all
          go_wp2_with fail
          clear q9 f9 l9
          go_loopw [58] (fun iv wr => ∃ i : Nat, i ≤ rl ∧ iv = .int .i64 (i : Int) ∧ BT pB (base ++ repsT xr i) wr ∧ Below W.heap.size W wr) (fun iv _ => rl - (intOf iv).toNat)
          case atStart => exact ⟨0, by omega, rfl, by simpa [repsT] using bt, B⟩
          case round =>
            clear bt B x9
            obtain ⟨i, hi, rfl, bt, B⟩ := hrel
            by_cases hlt2 : i < rl
            · obtain ⟨gr, capr, er, hgl, _, _, hcell, _⟩ := Hrep.out.open (by omega)
              obtain ⟨rfl, rfl⟩ : ra = some ⟨gr, 0, none⟩ ∧ rc = capr := by cases er; exact ⟨rfl, rfl⟩
              have z1 := (B.cell (p := ⟨gr, i * 2, none⟩) hgl).trans (hcell i 0 hlt2 (by omega))
              have z2 := (B.cell (p := ⟨gr, i * 2 + 1, none⟩) hgl).trans (hcell i 1 hlt2 (by omega))
              have hir : i < xr.length := by rw [← Hrl2.out]; exact hlt2
              have hw := HWN.out.reps.2 _ (rAt_mem hir)
              have hsz := replyB_size hw.1 hw.2.2
              have h1 := (name_sz hw.1).2
              have h2 := text_sz hw.2.2
              have hrs := repsT_succ xr i
              have hS : (⟨#[114, 101, 112, 108, 121, 32]⟩ : ByteArray) ++ (rAt xr i).author ++ (⟨#[58, 32]⟩ : ByteArray) ++ (rAt xr i).text ++ (⟨#[10]⟩ : ByteArray) = ofL (toL (replyB (rAt xr i))) := ofL_toL _
              have hlr := repsT_len HWN.out i (by show i ≤ xr.length; omega)
              dsimp only [rcell] at z1 z2 hlr
              rw [← toL_len] at hsz
              generalize toL (replyB (rAt xr i)) = RT at *
              generalize (rAt xr i).author = ya at *
              generalize (rAt xr i).text = yt at *
              have HS := Lib.hid hS
              have HSU2 := Lib.hid hrs
              have hii : (i : Int) < (rl : Int) := by omega
              clear er hcell hw hS hrs
              go_upto_region 12 with fail
              refine name_world ?_
              intro w5 hw5
              obtain ⟨p8, hp8⟩ : ∃ p, p = wr.heap.size := ⟨_, rfl⟩
              have x8 : Bx w5 p8 74 #[.string ya, .string yt] := by rw [hw5, hp8]; exact Bx.new _ _ _
              have b5 : Below wr.heap.size wr w5 := by rw [hw5]; exact bnew (Below.refl _ _)
              replace bt := bt.keep b5
              replace B := bcall B b5
              rw [← hp8]
              clear hw5 hp8 b5 z1 z2
              obtain ⟨q8, f8, l8⟩ := x8.all
              have s6 := lit_sz6
              have s2 := lit_szc
              have s1 := lit_szn
              go_wp2_with fail
              refine (bt_writeB pB _ RT _ _ HS.out bt (by rw [List.length_append]; omega)).mono ?_
              rintro e w6 ⟨⟨nw, rfl⟩, bt2, Bw, _⟩
              have bt3 : BT pB (base ++ repsT xr (i + 1)) w6 := by rw [HSU2.out, ← List.append_assoc]; exact bt2
              have B3 := B.trans (Bw.mono hWB)
              clear bt bt2 Bw B x8 q8 f8 l8 s6 s2 s1
              go_wp2_with fail
              go_roundw
              case rel => exact ⟨i + 1, by omega, by go_num, bt3, B3⟩
              case measure => simp [intOf]; omega
            · obtain rfl : i = rl := by omega
              have bt3 : BT pB (notesT σ.notes (k + 1)) wr := by
                rw [HSU.out, ← List.append_assoc, ← Hrl2.out, ← HBASE.out]; exact bt
              clear bt
              go_wp2_with fail
              go_roundw
              case rel => exact ⟨k + 1, by omega, by go_num, bt3, B⟩
              case measure => simp [intOf]; omega
      · have hst : (⟨#[111, 112, 101, 110]⟩ : ByteArray) = ST := hST.symm
        go_upto_region 8 with fail
        rw [hst]
        clear hst hST
        clear q9 f9
        refine wp_region_grd 30 (fun _ => false) (fun q u w' => u = [.pointer (some ⟨p9, 0, none⟩), .pointer (some ⟨p9, 0, none⟩), .int .i64 ((k : Int) + 1), .string PA, .string ((⟨#[110, 111, 116, 101, 32]⟩ : ByteArray) ++ PA), .string ((⟨#[110, 111, 116, 101, 32]⟩ : ByteArray) ++ PA ++ (⟨#[32]⟩ : ByteArray)), .pointer (some ⟨p9, 0, none⟩), .pointer (some ⟨p9, 1, none⟩), .string xs, .string ((⟨#[110, 111, 116, 101, 32]⟩ : ByteArray) ++ PA ++ (⟨#[32]⟩ : ByteArray) ++ xs), .string ((⟨#[110, 111, 116, 101, 32]⟩ : ByteArray) ++ PA ++ (⟨#[32]⟩ : ByteArray) ++ xs ++ (⟨#[32]⟩ : ByteArray)), .pointer (some ⟨p9, 0, none⟩), .pointer (some ⟨p9, 2, none⟩), .int .i64 xf, .string PB, .string ((⟨#[110, 111, 116, 101, 32]⟩ : ByteArray) ++ PA ++ (⟨#[32]⟩ : ByteArray) ++ xs ++ (⟨#[32]⟩ : ByteArray) ++ PB), .string ((⟨#[110, 111, 116, 101, 32]⟩ : ByteArray) ++ PA ++ (⟨#[32]⟩ : ByteArray) ++ xs ++ (⟨#[32]⟩ : ByteArray) ++ PB ++ (⟨#[32]⟩ : ByteArray)), .pointer (some ⟨p9, 0, none⟩), .pointer (some ⟨p9, 3, none⟩), .string xa, .string ((⟨#[110, 111, 116, 101, 32]⟩ : ByteArray) ++ PA ++ (⟨#[32]⟩ : ByteArray) ++ xs ++ (⟨#[32]⟩ : ByteArray) ++ PB ++ (⟨#[32]⟩ : ByteArray) ++ xa), .string ((⟨#[110, 111, 116, 101, 32]⟩ : ByteArray) ++ PA ++ (⟨#[32]⟩ : ByteArray) ++ xs ++ (⟨#[32]⟩ : ByteArray) ++ PB ++ (⟨#[32]⟩ : ByteArray) ++ xa ++ (⟨#[32]⟩ : ByteArray)), .string ST, .string ((⟨#[110, 111, 116, 101, 32]⟩ : ByteArray) ++ PA ++ (⟨#[32]⟩ : ByteArray) ++ xs ++ (⟨#[32]⟩ : ByteArray) ++ PB ++ (⟨#[32]⟩ : ByteArray) ++ xa ++ (⟨#[32]⟩ : ByteArray) ++ ST), .string ((⟨#[110, 111, 116, 101, 32]⟩ : ByteArray) ++ PA ++ (⟨#[32]⟩ : ByteArray) ++ xs ++ (⟨#[32]⟩ : ByteArray) ++ PB ++ (⟨#[32]⟩ : ByteArray) ++ xa ++ (⟨#[32]⟩ : ByteArray) ++ ST ++ (⟨#[58, 32]⟩ : ByteArray)), .pointer (some ⟨p9, 0, none⟩), .pointer (some ⟨p9, 4, none⟩), .string xt, .string ((⟨#[110, 111, 116, 101, 32]⟩ : ByteArray) ++ PA ++ (⟨#[32]⟩ : ByteArray) ++ xs ++ (⟨#[32]⟩ : ByteArray) ++ PB ++ (⟨#[32]⟩ : ByteArray) ++ xa ++ (⟨#[32]⟩ : ByteArray) ++ ST ++ (⟨#[58, 32]⟩ : ByteArray) ++ xt), .string ((⟨#[110, 111, 116, 101, 32]⟩ : ByteArray) ++ PA ++ (⟨#[32]⟩ : ByteArray) ++ xs ++ (⟨#[32]⟩ : ByteArray) ++ PB ++ (⟨#[32]⟩ : ByteArray) ++ xa ++ (⟨#[32]⟩ : ByteArray) ++ ST ++ (⟨#[58, 32]⟩ : ByteArray) ++ xt ++ (⟨#[10]⟩ : ByteArray))].getD q undef) (fun _ => false) (fun w' => Below w3.heap.size w3 w') (by kernel_rfl) (by kernel_rfl) (fun _ _ _ _ _ h => h)
          (fun _ _ h e => e.trans (h.mono e.size)) (fun t u a' b' hb h => ?_) (Below.refl _ _).drew ?_ ?_ ?_
        · exact h
        · intro t op ht hlt hop
          clear hlt
          rcases (by omega : t = 0 ∨ t = 1 ∨ t = 2 ∨ t = 3 ∨ t = 4 ∨ t = 5 ∨ t = 6 ∨ t = 7 ∨ t = 8 ∨ t = 9 ∨ t = 10 ∨ t = 11 ∨ t = 12 ∨ t = 13 ∨ t = 14 ∨ t = 15 ∨ t = 16 ∨ t = 17 ∨ t = 18 ∨ t = 19 ∨ t = 20 ∨ t = 21 ∨ t = 22 ∨ t = 23 ∨ t = 24 ∨ t = 25 ∨ t = 26 ∨ t = 27 ∨ t = 28 ∨ t = 29) with rfl | rfl | rfl | rfl | rfl | rfl | rfl | rfl | rfl | rfl | rfl | rfl | rfl | rfl | rfl | rfl | rfl | rfl | rfl | rfl | rfl | rfl | rfl | rfl | rfl | rfl | rfl | rfl | rfl | rfl
          all_goals simp only [List.getElem?_cons_zero, List.getElem?_cons_succ, Option.some.injEq] at hop
          all_goals subst hop
          all_goals intro a wx hE hag hdep
          · refine grd_none rfl ?_
            have e0 := slot_eq (hag 5 rfl)
            exact rel_pure _ rfl rfl (by simp [go_sem, e0])
          · refine grd_none rfl ?_
            have e0 := slot_eq (hdep ⟨0, .data⟩ (by simp) rfl)
            exact rel_pure _ rfl rfl (by simp [go_sem, e0])
          · refine grd_none rfl ?_
            have e0 := slot_eq (hdep ⟨1, .data⟩ (by simp) rfl)
            have hq := (x9.keep hE).all.1
            exact rel_pure _ rfl rfl (by simp [go_sem, e0, hq])
          · refine grd_none rfl ?_
            have e0 := slot_eq (hdep ⟨2, .data⟩ (by simp) rfl)
            refine rel_call (f := 30) (args := #[.int .i64 ((k : Int) + 1)]) (run_go_call Tryz.func30 (by kernel_rfl) (by kernel_rfl) _ _ _ _ _ _ _ _ _ _ (by simp [Act.eval, e0])) rfl ?_
            refine (KPA.out wx (E3.below hE)).mono ?_
            rintro e w' ⟨rfl, hbx⟩
            exact ⟨_, rfl, rfl, hbx⟩
          · refine grd_none rfl ?_
            have e1 := slot_eq (hdep ⟨3, .data⟩ (by simp) rfl)
            exact rel_pure _ rfl rfl (run_catB rfl rfl (by simp [Act.eval, e1]) (by simp only [ByteArray.size_append, lit_sz5, lit_sz1, lit_szn, lit_szc]; omega))
          · refine grd_none rfl ?_
            have e0 := slot_eq (hdep ⟨4, .data⟩ (by simp) rfl)
            exact rel_pure _ rfl rfl (run_catB rfl (by simp [Act.eval, e0]) rfl (by simp only [ByteArray.size_append, lit_sz5, lit_sz1, lit_szn, lit_szc]; omega))
          · refine grd_none rfl ?_
            have e0 := slot_eq (hag 5 rfl)
            exact rel_pure _ rfl rfl (by simp [go_sem, e0])
          · refine grd_none rfl ?_
            have e0 := slot_eq (hdep ⟨6, .data⟩ (by simp) rfl)
            exact rel_pure _ rfl rfl (by simp [go_sem, e0])
          · refine grd_none rfl ?_
            have e0 := slot_eq (hdep ⟨7, .data⟩ (by simp) rfl)
            have hq := (x9.keep hE).all.1
            exact rel_pure _ rfl rfl (by simp [go_sem, e0, hq])
          · refine grd_none rfl ?_
            have e0 := slot_eq (hdep ⟨5, .data⟩ (by simp) rfl)
            have e1 := slot_eq (hdep ⟨8, .data⟩ (by simp) rfl)
            exact rel_pure _ rfl rfl (run_catB rfl (by simp [Act.eval, e0]) (by simp [Act.eval, e1]) (by simp only [ByteArray.size_append, lit_sz5, lit_sz1, lit_szn, lit_szc]; omega))
          · refine grd_none rfl ?_
            have e0 := slot_eq (hdep ⟨9, .data⟩ (by simp) rfl)
            exact rel_pure _ rfl rfl (run_catB rfl (by simp [Act.eval, e0]) rfl (by simp only [ByteArray.size_append, lit_sz5, lit_sz1, lit_szn, lit_szc]; omega))
          · refine grd_none rfl ?_
            have e0 := slot_eq (hag 5 rfl)
            exact rel_pure _ rfl rfl (by simp [go_sem, e0])
          · refine grd_none rfl ?_
            have e0 := slot_eq (hdep ⟨11, .data⟩ (by simp) rfl)
            exact rel_pure _ rfl rfl (by simp [go_sem, e0])
          · refine grd_none rfl ?_
            have e0 := slot_eq (hdep ⟨12, .data⟩ (by simp) rfl)
            have hq := (x9.keep hE).all.1
            exact rel_pure _ rfl rfl (by simp [go_sem, e0, hq])
          · refine grd_none rfl ?_
            have e0 := slot_eq (hdep ⟨13, .data⟩ (by simp) rfl)
            refine rel_call (f := 30) (args := #[.int .i64 xf]) (run_go_call Tryz.func30 (by kernel_rfl) (by kernel_rfl) _ _ _ _ _ _ _ _ _ _ (by simp [Act.eval, e0])) rfl ?_
            refine (KPB.out wx (E3.below hE)).mono ?_
            rintro e w' ⟨rfl, hbx⟩
            exact ⟨_, rfl, rfl, hbx⟩
          · refine grd_none rfl ?_
            have e0 := slot_eq (hdep ⟨10, .data⟩ (by simp) rfl)
            have e1 := slot_eq (hdep ⟨14, .data⟩ (by simp) rfl)
            exact rel_pure _ rfl rfl (run_catB rfl (by simp [Act.eval, e0]) (by simp [Act.eval, e1]) (by simp only [ByteArray.size_append, lit_sz5, lit_sz1, lit_szn, lit_szc]; omega))
          · refine grd_none rfl ?_
            have e0 := slot_eq (hdep ⟨15, .data⟩ (by simp) rfl)
            exact rel_pure _ rfl rfl (run_catB rfl (by simp [Act.eval, e0]) rfl (by simp only [ByteArray.size_append, lit_sz5, lit_sz1, lit_szn, lit_szc]; omega))
          · refine grd_none rfl ?_
            have e0 := slot_eq (hag 5 rfl)
            exact rel_pure _ rfl rfl (by simp [go_sem, e0])
          · refine grd_none rfl ?_
            have e0 := slot_eq (hdep ⟨17, .data⟩ (by simp) rfl)
            exact rel_pure _ rfl rfl (by simp [go_sem, e0])
          · refine grd_none rfl ?_
            have e0 := slot_eq (hdep ⟨18, .data⟩ (by simp) rfl)
            have hq := (x9.keep hE).all.1
            exact rel_pure _ rfl rfl (by simp [go_sem, e0, hq])
          · refine grd_none rfl ?_
            have e0 := slot_eq (hdep ⟨16, .data⟩ (by simp) rfl)
            have e1 := slot_eq (hdep ⟨19, .data⟩ (by simp) rfl)
            exact rel_pure _ rfl rfl (run_catB rfl (by simp [Act.eval, e0]) (by simp [Act.eval, e1]) (by simp only [ByteArray.size_append, lit_sz5, lit_sz1, lit_szn, lit_szc]; omega))
          · refine grd_none rfl ?_
            have e0 := slot_eq (hdep ⟨20, .data⟩ (by simp) rfl)
            exact rel_pure _ rfl rfl (run_catB rfl (by simp [Act.eval, e0]) rfl (by simp only [ByteArray.size_append, lit_sz5, lit_sz1, lit_szn, lit_szc]; omega))
          · refine grd_none rfl ?_
            have e0 := slot_eq (hag 6 rfl)
            exact rel_pure _ rfl rfl (by simp [go_sem, e0])
          · refine grd_none rfl ?_
            have e0 := slot_eq (hdep ⟨21, .data⟩ (by simp) rfl)
            have e1 := slot_eq (hdep ⟨22, .data⟩ (by simp) rfl)
            exact rel_pure _ rfl rfl (run_catB rfl (by simp [Act.eval, e0]) (by simp [Act.eval, e1]) (by simp only [ByteArray.size_append, lit_sz5, lit_sz1, lit_szn, lit_szc]; omega))
          · refine grd_none rfl ?_
            have e0 := slot_eq (hdep ⟨23, .data⟩ (by simp) rfl)
            exact rel_pure _ rfl rfl (run_catB rfl (by simp [Act.eval, e0]) rfl (by simp only [ByteArray.size_append, lit_sz5, lit_sz1, lit_szn, lit_szc]; omega))
          · refine grd_none rfl ?_
            have e0 := slot_eq (hag 5 rfl)
            exact rel_pure _ rfl rfl (by simp [go_sem, e0])
          · refine grd_none rfl ?_
            have e0 := slot_eq (hdep ⟨25, .data⟩ (by simp) rfl)
            exact rel_pure _ rfl rfl (by simp [go_sem, e0])
          · refine grd_none rfl ?_
            have e0 := slot_eq (hdep ⟨26, .data⟩ (by simp) rfl)
            have hq := (x9.keep hE).all.1
            exact rel_pure _ rfl rfl (by simp [go_sem, e0, hq])
          · refine grd_none rfl ?_
            have e0 := slot_eq (hdep ⟨24, .data⟩ (by simp) rfl)
            have e1 := slot_eq (hdep ⟨27, .data⟩ (by simp) rfl)
            exact rel_pure _ rfl rfl (run_catB rfl (by simp [Act.eval, e0]) (by simp [Act.eval, e1]) (by simp only [ByteArray.size_append, lit_sz5, lit_sz1, lit_szn, lit_szc]; omega))
          · refine grd_none rfl ?_
            have e0 := slot_eq (hdep ⟨28, .data⟩ (by simp) rfl)
            exact rel_pure _ rfl rfl (run_catB rfl (by simp [Act.eval, e0]) rfl (by simp only [ByteArray.size_append, lit_sz5, lit_sz1, lit_szn, lit_szc]; omega))
        · intro t op ht hlt; cases hlt
        · intro vs wy hE hvs _
          have k29 : vs 29 = .string ((⟨#[110, 111, 116, 101, 32]⟩ : ByteArray) ++ PA ++ (⟨#[32]⟩ : ByteArray) ++ xs ++ (⟨#[32]⟩ : ByteArray) ++ PB ++ (⟨#[32]⟩ : ByteArray) ++ xa ++ (⟨#[32]⟩ : ByteArray) ++ ST ++ (⟨#[58, 32]⟩ : ByteArray) ++ xt ++ (⟨#[10]⟩ : ByteArray)) := hvs 29 (by omega)
          simp only [List.drop_succ_cons, List.drop_zero, putAll, dstAt, List.getElem?_toArray, List.getElem?_cons_zero, List.getElem?_cons_succ, Option.bind_some, Act.put, List.setIfInBounds_toArray, List.set_cons_zero, List.set_cons_succ, k29]
          clear hvs k29
          replace bt := bt.keep hE
          replace x9 := x9.keep hE
          replace B := bcall B hE
          clear hE E3 KPA KPB h1 h2 h3 h4 h5 h6
          go_wp2_with fail
          refine (bt_writeB pB (notesT σ.notes k) NT _ _ HS.out bt (by omega)).mono ?_
          rintro e w4 ⟨⟨nw, rfl⟩, bt2, Bw, ap⟩
          replace x9 := ap _ _ _ (by decide) (fun h => hB9 h.symm) x9
          replace B := B.trans (Bw.mono hWB)
          replace bt := bt2
          have hl2 : (notesT σ.notes k ++ NT).length ≤ 112000 * k + 1200 := by rw [List.length_append]; omega
          obtain ⟨base, hbase⟩ : ∃ b, b = notesT σ.notes k ++ NT := ⟨_, rfl⟩
          rw [← hbase] at bt hl2
          have HBASE := Lib.hid hbase
          clear hbase
          clear bt2 Bw ap HS hl1 hsz
          obtain ⟨q9, f9, l9⟩ := x9.all
          go_wp2_with fail
          clear q9 f9 l9
          go_loopw [58] (fun iv wr => ∃ i : Nat, i ≤ rl ∧ iv = .int .i64 (i : Int) ∧ BT pB (base ++ repsT xr i) wr ∧ Below W.heap.size W wr) (fun iv _ => rl - (intOf iv).toNat)
          case atStart => exact ⟨0, by omega, rfl, by simpa [repsT] using bt, B⟩
          case round =>
            clear bt B x9
            obtain ⟨i, hi, rfl, bt, B⟩ := hrel
            by_cases hlt2 : i < rl
            · obtain ⟨gr, capr, er, hgl, _, _, hcell, _⟩ := Hrep.out.open (by omega)
              obtain ⟨rfl, rfl⟩ : ra = some ⟨gr, 0, none⟩ ∧ rc = capr := by cases er; exact ⟨rfl, rfl⟩
              have z1 := (B.cell (p := ⟨gr, i * 2, none⟩) hgl).trans (hcell i 0 hlt2 (by omega))
              have z2 := (B.cell (p := ⟨gr, i * 2 + 1, none⟩) hgl).trans (hcell i 1 hlt2 (by omega))
              have hir : i < xr.length := by rw [← Hrl2.out]; exact hlt2
              have hw := HWN.out.reps.2 _ (rAt_mem hir)
              have hsz := replyB_size hw.1 hw.2.2
              have h1 := (name_sz hw.1).2
              have h2 := text_sz hw.2.2
              have hrs := repsT_succ xr i
              have hS : (⟨#[114, 101, 112, 108, 121, 32]⟩ : ByteArray) ++ (rAt xr i).author ++ (⟨#[58, 32]⟩ : ByteArray) ++ (rAt xr i).text ++ (⟨#[10]⟩ : ByteArray) = ofL (toL (replyB (rAt xr i))) := ofL_toL _
              have hlr := repsT_len HWN.out i (by show i ≤ xr.length; omega)
              dsimp only [rcell] at z1 z2 hlr
              rw [← toL_len] at hsz
              generalize toL (replyB (rAt xr i)) = RT at *
              generalize (rAt xr i).author = ya at *
              generalize (rAt xr i).text = yt at *
              have HS := Lib.hid hS
              have HSU2 := Lib.hid hrs
              have hii : (i : Int) < (rl : Int) := by omega
              clear er hcell hw hS hrs
              go_upto_region 12 with fail
              refine name_world ?_
              intro w5 hw5
              obtain ⟨p8, hp8⟩ : ∃ p, p = wr.heap.size := ⟨_, rfl⟩
              have x8 : Bx w5 p8 74 #[.string ya, .string yt] := by rw [hw5, hp8]; exact Bx.new _ _ _
              have b5 : Below wr.heap.size wr w5 := by rw [hw5]; exact bnew (Below.refl _ _)
              replace bt := bt.keep b5
              replace B := bcall B b5
              rw [← hp8]
              clear hw5 hp8 b5 z1 z2
              obtain ⟨q8, f8, l8⟩ := x8.all
              have s6 := lit_sz6
              have s2 := lit_szc
              have s1 := lit_szn
              go_wp2_with fail
              refine (bt_writeB pB _ RT _ _ HS.out bt (by rw [List.length_append]; omega)).mono ?_
              rintro e w6 ⟨⟨nw, rfl⟩, bt2, Bw, _⟩
              have bt3 : BT pB (base ++ repsT xr (i + 1)) w6 := by rw [HSU2.out, ← List.append_assoc]; exact bt2
              have B3 := B.trans (Bw.mono hWB)
              clear bt bt2 Bw B x8 q8 f8 l8 s6 s2 s1
              go_wp2_with fail
              go_roundw
              case rel => exact ⟨i + 1, by omega, by go_num, bt3, B3⟩
              case measure => simp [intOf]; omega
            · obtain rfl : i = rl := by omega
              have bt3 : BT pB (notesT σ.notes (k + 1)) wr := by
                rw [HSU.out, ← List.append_assoc, ← Hrl2.out, ← HBASE.out]; exact bt
              clear bt
              go_wp2_with fail
              go_roundw
              case rel => exact ⟨k + 1, by omega, by go_num, bt3, B⟩
              case measure => simp [intOf]; omega
    · obtain rfl : k = n0 := by omega
      have hl1 := HN.out k (Nat.le_refl _)
      have KS := Lib.hid (conform_shots p σ F _ m rv wr (H.out.keep B) hal)
      go_wp2_with fail
      refine KS.out.mono ?_
      rintro e w1 ⟨v, rfl, own, hb⟩
      obtain ⟨sa, sc, rfl, hsl⟩ := own.bx
      have bt1 := bt.keep hb
      have B1 := bcall B hb
      have hBlt := bt.lt
      obtain ⟨n1, hn1⟩ : ∃ n, n = σ.appr.length := ⟨_, rfl⟩
      have hl3 := apprsT_len HW.out
      rw [shotsL_len] at hsl ⊢
      rw [← hn1] at hsl hal hl3 ⊢
      have HL3 := Lib.hid hl3
      have Hn1 := Lib.hid hn1
      have HSL := Lib.hid hsl
      clear bt B hb KS hl3 hn1 hsl own
      go_wp2_with fail
      go_loopw [76] (fun iv wr2 => ∃ i : Nat, i ≤ n1 ∧ iv = .int .i64 (i : Int) ∧ BT pB (notesT σ.notes k ++ apprsT σ.appr i) wr2 ∧ (0 < n1 → ∃ g cs, sa = some ⟨g, 0, none⟩ ∧ wr.heap.size ≤ g ∧ Bx wr2 g 9 cs ∧ ∀ j, j < n1 → cs[j]? = some (.string (sAt (shotsL σ.appr) j))) ∧ Below W.heap.size W wr2) (fun iv _ => n1 - (intOf iv).toNat)
      case atStart => exact ⟨0, by omega, rfl, by simpa [apprsT] using bt1, HSL.out, B1⟩
      case round =>
        clear bt1 B1 HSL
        obtain ⟨i, hi, rfl, bt, hsl, B⟩ := hrel
        by_cases hlt : i < n1
        · obtain ⟨g, cs, rfl, hg, xg, hcs⟩ := hsl (by omega)
          have hq := xg.all.1 i
          rw [hcs i hlt] at hq
          have lq := xg.lt
          have hat := appr_at HW.out (show i < σ.appr.length by rw [← Hn1.out]; exact hlt)
          have h1 := (name_sz hat.1).2
          have h2 := (name_sz hat.2).2
          have hsz := apprB_size (p := (sAt (shotsL σ.appr) i, apprOf σ.appr (sAt (shotsL σ.appr) i))) hat.1 hat.2
          have hsu := apprsT_succ σ.appr i
          have hS : (⟨#[97, 112, 112, 114, 111, 118, 101, 100, 32]⟩ : ByteArray) ++ sAt (shotsL σ.appr) i ++ (⟨#[32]⟩ : ByteArray) ++ apprOf σ.appr (sAt (shotsL σ.appr) i) ++ (⟨#[10]⟩ : ByteArray) = ofL (toL (apprB (sAt (shotsL σ.appr) i, apprOf σ.appr (sAt (shotsL σ.appr) i)))) := ofL_toL _
          have hlk := (H.out.keep B).map.look (sAt (shotsL σ.appr) i) (by unfold maxLen; omega)
          rw [show (getA σ.appr (sAt (shotsL σ.appr) i)).getD ⟨#[]⟩ = apprOf σ.appr (sAt (shotsL σ.appr) i) from rfl] at hlk
          have hl4 := HL3.out i (by omega)
          have hbx := (H.out.keep B).bx
          rw [← toL_len] at hsz
          generalize toL (apprB (sAt (shotsL σ.appr) i, apprOf σ.appr (sAt (shotsL σ.appr) i))) = AT at *
          generalize apprOf σ.appr (sAt (shotsL σ.appr) i) = av at *
          generalize sAt (shotsL σ.appr) i = sv at *
          have HS := Lib.hid hS
          have HSU := Lib.hid hsu
          have hii : (i : Int) < (n1 : Int) := by omega
          have hgB : g ≠ pB := by omega
          have s9 := lit_sz9
          have s1 := lit_sz1
          have sn := lit_szn
          have Hhsl := Lib.hid hcs
          clear hS hsu hat hsl hcs
          obtain ⟨qp, fp, lp⟩ := hbx.all
          go_wp2_with fail
          refine (bt_writeB pB _ AT _ _ HS.out bt (by rw [List.length_append]; omega)).mono ?_
          rintro e w2 ⟨⟨nw, rfl⟩, bt2, Bw, ap⟩
          have bt3 : BT pB (notesT σ.notes k ++ apprsT σ.appr (i + 1)) w2 := by rw [HSU.out, ← List.append_assoc]; exact bt2
          have B3 := B.trans (Bw.mono hWB)
          have x3 := ap g _ _ (by decide) hgB xg
          clear bt bt2 Bw B ap qp fp lp hlk hbx hq lq s9 s1 sn xg
          go_wp2_with fail
          go_roundw
          case rel => exact ⟨i + 1, by omega, by go_num, bt3, fun _ => ⟨g, cs, rfl, hg, x3, Hhsl.out⟩, B3⟩
          case measure => simp [intOf]; omega
        · obtain rfl : i = n1 := by omega
          have e : notesT σ.notes k ++ apprsT σ.appr i = textS σ := by unfold textS; rw [← Hn.out, ← Hn1.out]
          rw [e] at bt
          clear e
          go_wp2_with fail
          refine (Tryz.Builder_String_any pB pB (textS σ) _ bt (Nat.le_of_lt bt.lt)).mono ?_
          rintro e w2 ⟨rfl, hb⟩
          have B3 := B.trans (hb.mono hWB)
          go_wp2_with fail
          go_ret
          exact ⟨rfl, B3⟩
end Go.Proofs.YtilninaminaadaaGreatDoor

