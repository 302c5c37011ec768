/- dyeref1's Review: Close. (printed by gen_rvn.py) -/
import Derived.Test.YtilninaminaadaaGreatDoorRvL
namespace Go.Proofs.YtilninaminaadaaGreatDoor
open Go.RowKit

set_option maxRecDepth 100000 in
set_option maxHeartbeats 8000000 in
theorem ref_Close_err (p : Nat) (σ : Rv) (F : Nat → Prop) (vn vb va : Value) (m : Nat) (rv : Nat → Value) (n : Int) (author : ByteArray) (W : World) (h : RO W p σ F vn vb va m rv) (wf : Wf σ) (he : closeE σ n author ≠ 0) :
    Calls Tryz.prog 22 #[.pointer (some ⟨p, 0, none⟩), .int .i64 n, .string author] W fun e w' => e = .returned (.int .i64 (closeE σ n author)) ∧ Below W.heap.size W w' := by
  unfold closeE at he ⊢
  have hlen := wf.len
  by_cases h1 : n < 1 ∨ (σ.notes.length : Int) < n
  · have e1 : ntE σ n author = 11 := by unfold ntE; rw [if_pos h1]
    rw [e1, if_pos (by decide)]
    have K := Lib.hid (h.at_none author h1)
    clear he h wf e1 h1
    go_enter Tryz.func22, Tryz.ntmps22
    go_upto_region 1 with fail
    refine name_world ?_
    intro w0 hw0
    have x5 : Bx w0 W.heap.size 9 #[.string author] := by rw [hw0]; exact Bx.new _ _ _
    have B : Below W.heap.size W w0 := by rw [hw0]; exact bnew (Below.refl _ W)
    clear hw0
    obtain ⟨p5, hp5⟩ : ∃ p5, p5 = W.heap.size := ⟨_, rfl⟩
    rw [← hp5] at x5 ⊢
    have Hp5 := Lib.hid hp5
    clear hp5
    obtain ⟨q5, f5, l5⟩ := x5.all
    go_wp2_with fail
    refine (K.out w0 B).mono ?_
    rintro e w1 ⟨rfl, hb⟩
    replace x5 := x5.keep hb
    replace B := bcall B hb
    clear hb q5 f5 l5
    go_wp2_with fail
    go_ret
    exact ⟨rfl, B⟩
  have h11 : 1 ≤ n := by omega
  have h12 : n ≤ σ.notes.length := by omega
  obtain ⟨g, cap, rfl, hfind⟩ := h.at_at hlen author h11 h12
  by_cases h2 : nameB author = false
  · have e1 : ntE σ n author = 6 := by unfold ntE; rw [if_neg h1, if_pos h2]
    rw [e1, if_pos (by decide)]
    rw [if_pos h2] at hfind
    have K := Lib.hid hfind
    clear he h wf e1 h1 h11 h12 hfind
    go_enter Tryz.func22, Tryz.ntmps22
    go_upto_region 1 with fail
    refine name_world ?_
    intro w0 hw0
    have x5 : Bx w0 W.heap.size 9 #[.string author] := by rw [hw0]; exact Bx.new _ _ _
    have B : Below W.heap.size W w0 := by rw [hw0]; exact bnew (Below.refl _ W)
    clear hw0
    obtain ⟨p5, hp5⟩ : ∃ p5, p5 = W.heap.size := ⟨_, rfl⟩
    rw [← hp5] at x5 ⊢
    have Hp5 := Lib.hid hp5
    clear hp5
    obtain ⟨q5, f5, l5⟩ := x5.all
    go_wp2_with fail
    refine (K.out w0 B).mono ?_
    rintro e w1 ⟨rfl, hb⟩
    replace x5 := x5.keep hb
    replace B := bcall B hb
    clear hb q5 f5 l5
    go_wp2_with fail
    go_ret
    exact ⟨rfl, B⟩
  replace h2 : nameB author = true := by simpa using h2
  rw [if_neg (by rw [h2]; simp)] at hfind
  have K := Lib.hid hfind
  clear hfind
  have e1 : ntE σ n author = 0 := by unfold ntE; rw [if_neg h1, if_neg (by rw [h2]; simp)]
  rw [e1, if_neg (by decide)] at he ⊢
  clear e1
  have hk : ntI n < σ.notes.length := by unfold ntI; omega
  have hxx : ntA σ n = nAt σ.notes (ntI n) := rfl
  rw [hxx] at he ⊢
  clear hxx
  have H := Lib.hid h
  have hwf := wf.notes _ (nAt_mem hk)
  generalize ntI n = k at *
  by_cases h6 : (nAt σ.notes k).opn = false
  · rw [if_pos h6]
    have Ho := Lib.hid h6
    clear he h wf h1 h11 h12 h6 hwf
    go_enter Tryz.func22, Tryz.ntmps22
    go_upto_region 1 with fail
    refine name_world ?_
    intro w0 hw0
    have x5 : Bx w0 W.heap.size 9 #[.string author] := by rw [hw0]; exact Bx.new _ _ _
    have B : Below W.heap.size W w0 := by rw [hw0]; exact bnew (Below.refl _ W)
    clear hw0
    obtain ⟨p5, hp5⟩ : ∃ p5, p5 = W.heap.size := ⟨_, rfl⟩
    rw [← hp5] at x5 ⊢
    have Hp5 := Lib.hid hp5
    clear hp5
    obtain ⟨q5, f5, l5⟩ := x5.all
    go_wp2_with fail
    refine (K.out w0 B).mono ?_
    rintro e w1 ⟨rfl, hb⟩
    replace x5 := x5.keep hb
    replace B := bcall B hb
    clear hb q5 f5 l5
    have hx := H.out.keep B
    obtain ⟨g2, cap2, eg, hg, hfz, c0, c1, c2, c3, c4, c5, c6⟩ := hx.at hk
    cases eg
    rw [Ho.out] at c5
    clear c0 c1 c2 c4
    clear c3 c6
    go_wp2_with fail
    go_ret
    exact ⟨rfl, B⟩
  replace h6 : (nAt σ.notes k).opn = true := by simpa using h6
  rw [if_neg (by rw [h6]; simp)] at he ⊢
  by_cases h7 : author = (nAt σ.notes k).author ∧ ((nAt σ.notes k).reps.any fun y => !decide (y.author = author)) = false
  · rw [if_pos h7]
    have Ho := Lib.hid h6
    have H7 := Lib.hid h7.2
    have e7 : (author.toList == (nAt σ.notes k).author.toList) = true := by rw [str_beq]; exact decide_eq_true h7.1
    have hrl : (nAt σ.notes k).reps.length ≤ 1000000 := by have := hwf.reps.1; omega
    clear he h wf h1 h11 h12 h6 h7 hwf
    go_enter Tryz.func22, Tryz.ntmps22
    go_upto_region 1 with fail
    refine name_world ?_
    intro w0 hw0
    have x5 : Bx w0 W.heap.size 9 #[.string author] := by rw [hw0]; exact Bx.new _ _ _
    have B : Below W.heap.size W w0 := by rw [hw0]; exact bnew (Below.refl _ W)
    clear hw0
    obtain ⟨p5, hp5⟩ : ∃ p5, p5 = W.heap.size := ⟨_, rfl⟩
    rw [← hp5] at x5 ⊢
    have Hp5 := Lib.hid hp5
    clear hp5
    obtain ⟨q5, f5, l5⟩ := x5.all
    go_wp2_with fail
    refine (K.out w0 B).mono ?_
    rintro e w1 ⟨rfl, hb⟩
    replace x5 := x5.keep hb
    replace B := bcall B hb
    clear hb q5 f5 l5
    have hx := H.out.keep B
    obtain ⟨g2, cap2, eg, hg, hfz, c0, c1, c2, c3, c4, c5, c6⟩ := hx.at hk
    cases eg
    rw [Ho.out] at c5
    clear c0 c1 c2 c4
    have hrep := hx.reps k hk
    obtain ⟨ra, rc, er, _, _⟩ := hrep.form
    have HR := Lib.hid hrep
    rw [er] at c6
    have Er := Lib.hid er
    clear er hrep hx
    obtain ⟨xa, hxa⟩ : ∃ xa, xa = (nAt σ.notes k).author := ⟨_, rfl⟩
    rw [← hxa] at c3 e7
    clear hxa
    obtain ⟨q5, f5, l5⟩ := x5.all
    have KC : Hid (∀ z : BW w1.heap.size w1, Calls Tryz.prog 52 #[.slice ra (nAt σ.notes k).reps.length rc, .func (.func 54) #[] #[.pointer (some ⟨p5, 0, none⟩)]] z.w fun e w' => e = .returned (.bool false) ∧ Below z.w.heap.size z.w w') := Lib.hid (fun z => by have t := rl_contains author z.w (HR.out.keep z.below) hrl (x5.keep z.below); rw [Er.out, H7.out] at t; exact t)
    go_upto_region 6 with fail
    refine wp_region_all (fun z : BW w1.heap.size w1 => z.w) (by kernel_rfl) (by kernel_rfl) (BW.start _ _) rfl ?_
    repeat (go_big_quiet_step (first | (go_at_call 52; exact BW.call (Nat.le_refl _) _ (KC.out _))))
    refine wpQuiet_nil ?_
    intro z
    have hz := z.below
    generalize z.w = w3 at *
    clear z
    have B2 : Below W.heap.size W w3 := B.trans (hz.mono B.size)
    go_wp2_with fail
    go_ret
    exact ⟨rfl, B2⟩
  rw [if_neg h7] at he
  exact absurd rfl he

set_option maxRecDepth 100000 in
set_option maxHeartbeats 16000000 in
theorem ref_Close_ok (p : Nat) (σ : Rv) (F : Nat → Prop) (vn vb va : Value) (m : Nat) (rv : Nat → Value) (n : Int) (author : ByteArray) (W : World) (h : RO W p σ F vn vb va m rv) (wf : Wf σ) (hcnt : σ.count ≤ 1000000) (he : closeE σ n author = 0) :
    Calls Tryz.prog 22 #[.pointer (some ⟨p, 0, none⟩), .int .i64 n, .string author] W fun e w' => e = .returned (.int .i64 0) ∧ RGo W p (closeS σ n author) F w' := by
  unfold closeE at he
  have hlen := wf.len
  split at he; · exact absurd he ‹_›
  rename_i h0
  obtain ⟨h11, h12, hk, h2, _, hwf⟩ := wf.at (by simpa using h0)
  split at he; · cases he
  split at he; · cases he
  rename_i h6 h7
  have Ho : Hid ((nAt σ.notes (ntI n)).opn = true) := Lib.hid (by have h6 : ¬ (nAt σ.notes (ntI n)).opn = false := h6; simpa using h6)
  have H7 : Hid (¬ (author = (nAt σ.notes (ntI n)).author ∧ ((nAt σ.notes (ntI n)).reps.any fun y => !decide (y.author = author)) = false)) := Lib.hid h7
  have hrl : (nAt σ.notes (ntI n)).reps.length ≤ 1000000 := by have : (nAt σ.notes (ntI n)).reps.length ≤ 100 := hwf.reps.1; omega
  obtain ⟨g, cap, rfl, hfind⟩ := h.at_at hlen author h11 h12
  rw [if_neg (by rw [h2]; simp)] at hfind
  have K := Lib.hid hfind
  obtain ⟨gB, capB, rfl, _⟩ := h.by_.open (by omega)
  obtain ⟨gA, capA, rfl, _⟩ := h.at_.open (by omega)
  have H := Lib.hid h
  show Calls _ _ _ W fun e w' => e = .returned (.int .i64 0) ∧ RGo W p ⟨σ.notes.set (ntI n) { nAt σ.notes (ntI n) with opn := false, closer := author, closed := σ.count + 1 }, σ.appr, σ.count + 1⟩ F w'
  obtain ⟨k, rfl⟩ : ∃ k : Nat, n = (k : Int) + 1 := ⟨(n - 1).toNat, by omega⟩
  have hkn : ntI ((k : Int) + 1) = k := by unfold ntI; omega
  rw [hkn] at hk Ho H7 hrl K ⊢
  have hc0 := wf.count
  have hkz : (k : Int) < (σ.notes.length : Int) := by omega
  clear he h wf h11 h12 h6 h7 hfind h0 hkn hwf
  by_cases h8 : author = (nAt σ.notes k).author
  · have e7 : (author.toList == (nAt σ.notes k).author.toList) = true := by rw [str_beq]; exact decide_eq_true h8
    have h7 : Hid (((nAt σ.notes k).reps.any fun y => !decide (y.author = author)) = true) := Lib.hid (by simpa using fun e => H7.out ⟨h8, e⟩)
    clear H7 h8
    go_enter Tryz.func22, Tryz.ntmps22
    go_upto_region 1 with fail
    refine name_world ?_
    intro w0 hw0
    have x5 : Bx w0 W.heap.size 9 #[.string author] := by rw [hw0]; exact Bx.new _ _ _
    have B : Below W.heap.size W w0 := by rw [hw0]; exact bnew (Below.refl _ W)
    clear hw0
    obtain ⟨p5, hp5⟩ : ∃ p5, p5 = W.heap.size := ⟨_, rfl⟩
    rw [← hp5] at x5 ⊢
    have Hp5 := Lib.hid hp5
    clear hp5
    obtain ⟨q5, f5, l5⟩ := x5.all
    go_wp2_with fail
    refine (K.out w0 B).mono ?_
    rintro e w1 ⟨rfl, hb⟩
    replace x5 := x5.keep hb
    replace B := bcall B hb
    clear hb q5 f5 l5
    have hx := H.out.keep B
    obtain ⟨g2, cap2, eg, hg, hfz, c0, c1, c2, c3, c4, c5, c6⟩ := hx.at hk
    cases eg
    rw [Ho.out] at c5
    clear c0 c1 c2 c4
    have hrep := hx.reps k hk
    obtain ⟨ra, rc, er, _, _⟩ := hrep.form
    have HR := Lib.hid hrep
    rw [er] at c6
    have Er := Lib.hid er
    clear er hrep hx
    obtain ⟨xa, hxa⟩ : ∃ xa, xa = (nAt σ.notes k).author := ⟨_, rfl⟩
    rw [← hxa] at c3 e7
    clear hxa
    obtain ⟨q5, f5, l5⟩ := x5.all
    have KC : Hid (∀ z : BW w1.heap.size w1, Calls Tryz.prog 52 #[.slice ra (nAt σ.notes k).reps.length rc, .func (.func 54) #[] #[.pointer (some ⟨p5, 0, none⟩)]] z.w fun e w' => e = .returned (.bool true) ∧ Below z.w.heap.size z.w w') := Lib.hid (fun z => by have t := rl_contains author z.w (HR.out.keep z.below) hrl (x5.keep z.below); rw [Er.out, h7.out] at t; exact t)
    go_upto_region 6 with fail
    refine wp_region_all (fun z : BW w1.heap.size w1 => z.w) (by kernel_rfl) (by kernel_rfl) (BW.start _ _) rfl ?_
    repeat (go_big_quiet_step (first | (go_at_call 52; exact BW.call (Nat.le_refl _) _ (KC.out _))))
    refine wpQuiet_nil ?_
    intro z
    have hz := z.below
    generalize z.w = w3 at *
    clear z
    have x5b := x5.keep hz
    have B3 : Below W.heap.size W w3 := B.trans (hz.mono B.size)
    clear x5 q5 f5 l5 B hz c3 c5 c6 hfz hg
    have hx := H.out.keep B3
    obtain ⟨g2, cap2, eg, hg, hfz, c0, c1, c2, c3, c4, c5, c6⟩ := hx.at hk
    cases eg
    obtain ⟨hpm, hn1, hn2, hn3, hn4⟩ := hx.nes
    have hgp := hn1 g rfl
    have hgbp := hn2 gB rfl
    have hgap := hn3 gA rfl
    have hadd : IntKind.i64.wrap (σ.count + 1) = σ.count + 1 := IntWalk.i64_in _ (by omega)
    have Hx := Lib.hid hx
    have hp5p : p ≠ p5 := by have := Hp5.out; have := H.out.bx.lt; omega
    have hgb5 : gB ≠ p5 := by have := Hp5.out; have := H.out.flt gB (H.out.fb gB rfl); omega
    have hga5 : gA ≠ p5 := by have := Hp5.out; have := H.out.flt gA (H.out.fa gA rfl); omega
    have hg5 : g ≠ p5 := by have := Hp5.out; have := H.out.flt g (H.out.fv g rfl); omega
    clear hx c0 c1 c2 c3 c4 c6
    go_upto_region 9 with fail
    refine name_world ?_
    intro w4 hw4
    have on4 : Only g w3 w4 := by rw [hw4]; exact (Only.refl g w3).set _ _
    have row4 := Hx.out.row.set k 5 hk (by omega) (.bool false)
    rw [← hw4] at row4
    have y4 := on4.bx (Ne.symm hgp.1) Hx.out.bx
    have x5c := on4.bx (Ne.symm hg5) x5b
    have On4 := Lib.hid (And.intro on4 row4)
    clear hw4 c5 hfz on4 row4 x5b
    obtain ⟨q4, f4, l4⟩ := y4.all
    go_upto_region 10 with fail
    refine name_world ?_
    intro w5 hw5
    have on5 : Only p w4 w5 := by rw [hw5]; exact (Only.refl p w4).set _ _
    have y5 : Bx w5 p 51 #[.slice (some ⟨g, 0, none⟩) σ.notes.length cap, .slice (some ⟨gB, 0, none⟩) σ.notes.length capB, .slice (some ⟨gA, 0, none⟩) σ.notes.length capA, .map (some m), .int .i64 (σ.count + 1)] := by rw [hw5]; exact y4.set 4 _
    have x5d := on5.bx (Ne.symm hp5p) x5c
    have Y5 := Lib.hid y5
    have On5 := Lib.hid on5
    clear hw5 q4 f4 l4 y4 x5c on5
    have rowB : RowN w5 9 1 (.slice (some ⟨gB, 0, none⟩) σ.notes.length capB) σ.notes.length _ := On5.out.rowN (On4.out.1.rowN Hx.out.by_ (fun b e => by simp only [Value.ownBlock, Option.some.injEq] at e; subst e; rintro rfl; exact hgbp.2.2.1 rfl)) (fun b e => by simp only [Value.ownBlock, Option.some.injEq] at e; subst e; exact hgbp.1)
    have rowA : RowN w5 3 1 (.slice (some ⟨gA, 0, none⟩) σ.notes.length capA) σ.notes.length _ := On5.out.rowN (On4.out.1.rowN Hx.out.at_ (fun b e => by simp only [Value.ownBlock, Option.some.injEq] at e; subst e; rintro rfl; exact hgap.2.2.1 rfl)) (fun b e => by simp only [Value.ownBlock, Option.some.injEq] at e; subst e; exact hgap.1)
    have hab : gB ≠ gA := fun e => hgbp.2.2.2 (by rw [e]; rfl)
    have Rows := Lib.hid (And.intro rowB rowA)
    obtain ⟨gB2, capB2, eB, _, _, _, hcB, hfB⟩ := rowB.open (by omega)
    cases eB
    obtain ⟨gA2, capA2, eA, _, _, _, hcA, hfA⟩ := rowA.open (by omega)
    cases eA
    have dB : w5.cell? ⟨gB, k, none⟩ = some (.string (nAt σ.notes k).closer) := by have := hcB k 0 hk (by omega); simpa using this
    have dA : w5.cell? ⟨gA, k, none⟩ = some (.int .i64 (nAt σ.notes k).closed) := by have := hcA k 0 hk (by omega); simpa using this
    have zB := hfB k
    have zA := hfA k
    clear hcB hfB hcA hfA rowB rowA
    have l0 : w5.cell? ⟨p5, 0, none⟩ = some (.string author) := x5d.all.1 0
    have l1 : w5.cell? ⟨p, 1, none⟩ = some (.slice (some ⟨gB, 0, none⟩) σ.notes.length capB) := Y5.out.all.1 1
    have l2 : w5.cell? ⟨p, 2, none⟩ = some (.slice (some ⟨gA, 0, none⟩) σ.notes.length capA) := Y5.out.all.1 2
    have l4 : w5.cell? ⟨p, 4, none⟩ = some (.int .i64 (σ.count + 1)) := Y5.out.all.1 4
    have ngb := hgbp.1
    have nga := hgap.1
    clear y5 x5d
    have s1 : IntKind.i64.wrap (k : Int) = (k : Int) := IntWalk.i64_in _ (by omega)
    have s0 : IntKind.i64.wrap ((k : Int) + 1 - 1) = (k : Int) := by rw [show (k : Int) + 1 - 1 = k by omega]; exact s1
    have s2 : (0 : Int) ≤ (k : Int) := by omega
    go_region_held3 (fun w' => w'.cell? ⟨p5, 0, none⟩ = some (.string author) ∧ w'.cell? ⟨p, 1, none⟩ = some (.slice (some ⟨gB, 0, none⟩) σ.notes.length capB) ∧ w'.cell? ⟨p, 2, none⟩ = some (.slice (some ⟨gA, 0, none⟩) σ.notes.length capA) ∧ w'.cell? ⟨p, 4, none⟩ = some (.int .i64 (σ.count + 1))) (go_keep) (first | fail)
    all_goals
      go_wp2_with fail
      go_ret
      refine ⟨rfl, ?_⟩
      have hX := Hx.out
      obtain ⟨on4, row4⟩ := On4.out
      obtain ⟨rowB, rowA⟩ := Rows.out
      have onB : Only gB w5 (w5.setCell ⟨gB, k, none⟩ (.string author)) := (Only.refl gB w5).set _ _
      have rowB1 := rowB.set k 0 hk (by omega) (.string author)
      simp only [Nat.mul_one, Nat.add_zero] at rowB1
      generalize hwB : w5.setCell ⟨gB, k, none⟩ (.string author) = wB at *
      have onA : Only gA wB (wB.setCell ⟨gA, k, none⟩ (.int .i64 (σ.count + 1))) := (Only.refl gA wB).set _ _
      have rowA1 := (onB.rowN rowA (fun b e => by simp only [Value.ownBlock, Option.some.injEq] at e; omega)).set k 0 hk (by omega) (.int .i64 (σ.count + 1))
      simp only [Nat.mul_one, Nat.add_zero] at rowA1
      generalize hwA : wB.setCell ⟨gA, k, none⟩ (.int .i64 (σ.count + 1)) = wA at *
      have rowB2 := onA.rowN rowB1 (fun b e => by simp only [Value.ownBlock, Option.some.injEq] at e; omega)
      have hkeep : ∀ b, b ≠ p → b ≠ g → b ≠ gB → b ≠ gA → wA.drew.heap[b]? = w3.heap[b]? := fun b h1 h2 h3 h4 => (onA.block b h4).trans ((onB.block b h3).trans ((On5.out.block b h1).trans (on4.block b h2)))
      have hnp : ∀ {b q : Nat} {n c : Nat}, (Value.slice (some ⟨q, 0, none⟩) n c).ownBlock ≠ some b → b ≠ q := fun h e => h (by rw [e]; rfl)
      refine RO.changed (w := w3) (r := rv k) hX B3 hk ?_ _ ((onA.rowN (onB.rowN (On5.out.rowN row4 (fun b e => by simp only [Value.ownBlock, Option.some.injEq] at e; subst e; exact hgp.1)) (fun b e => by simp only [Value.ownBlock, Option.some.injEq] at e; subst e; exact hnp hgp.2.2.1)) (fun b e => by simp only [Value.ownBlock, Option.some.injEq] at e; subst e; exact hnp hgp.2.2.2)).lift fun _ _ _ => rfl) ?_ _ (rowB2.lift fun _ _ _ => rfl) ?_ _ (rowA1.lift fun _ _ _ => rfl) ?_ ?_ ?_ ?_ ?_ ?_ ?_
      · exact onA.bx (Ne.symm nga) (onB.bx (Ne.symm ngb) Y5.out)
      · intro k' j h1 h2
        rw [mcell_set hk]
        by_cases hkk : k' = k
        · subst hkk
          rcases (by omega : j = 0 ∨ j = 1 ∨ j = 2 ∨ j = 3 ∨ j = 4 ∨ j = 5 ∨ j = 6) with rfl | rfl | rfl | rfl | rfl | rfl | rfl <;> simp [mcell, ncell]
        · rw [if_neg hkk, if_neg (by omega)]
      · intro k' h1
        rw [nAt_set hk]
        by_cases hkk : k' = k
        · simp [hkk]
        · simp [hkk]
      · intro k' h1
        rw [nAt_set hk]
        by_cases hkk : k' = k
        · simp [hkk]
        · simp [hkk]
      · exact (hX.reps k hk).lift fun b e _ => by
          obtain ⟨a1, a2, a3, a4, a5⟩ := hn4 k hk b e
          exact hkeep b a1 (hnp a3) (hnp a4) (hnp a5)
      · exact hX.map.lift (hkeep m (Ne.symm hpm) (Ne.symm hgp.2.1) (Ne.symm hgbp.2.1) (Ne.symm hgap.2.1))
      · exact fun b e => .inl e
      · show w3.heap.size ≤ wA.heap.size
        rw [onA.size, onB.size, On5.out.size, on4.size]; exact Nat.le_refl _
      · exact ⟨onA.os.trans (onB.os.trans (On5.out.os.trans on4.os)), onA.tape.trans (onB.tape.trans (On5.out.tape.trans on4.tape)), onA.output.trans (onB.output.trans (On5.out.output.trans on4.output))⟩
      · intro b h1 h2 h3 h4 h5 h6
        exact hkeep b h2 (hnp h4) (hnp h5) (hnp h6)
  · have e7 : (author.toList == (nAt σ.notes k).author.toList) = false := by rw [str_beq]; exact decide_eq_false h8
    clear H7 h8
    go_enter Tryz.func22, Tryz.ntmps22
    go_upto_region 1 with fail
    refine name_world ?_
    intro w0 hw0
    have x5 : Bx w0 W.heap.size 9 #[.string author] := by rw [hw0]; exact Bx.new _ _ _
    have B : Below W.heap.size W w0 := by rw [hw0]; exact bnew (Below.refl _ W)
    clear hw0
    obtain ⟨p5, hp5⟩ : ∃ p5, p5 = W.heap.size := ⟨_, rfl⟩
    rw [← hp5] at x5 ⊢
    have Hp5 := Lib.hid hp5
    clear hp5
    obtain ⟨q5, f5, l5⟩ := x5.all
    go_wp2_with fail
    refine (K.out w0 B).mono ?_
    rintro e w1 ⟨rfl, hb⟩
    replace x5 := x5.keep hb
    replace B := bcall B hb
    clear hb q5 f5 l5
    have hx := H.out.keep B
    obtain ⟨g2, cap2, eg, hg, hfz, c0, c1, c2, c3, c4, c5, c6⟩ := hx.at hk
    cases eg
    rw [Ho.out] at c5
    clear c0 c1 c2 c4
    have hrep := hx.reps k hk
    obtain ⟨ra, rc, er, _, _⟩ := hrep.form
    have HR := Lib.hid hrep
    rw [er] at c6
    have Er := Lib.hid er
    clear er hrep hx
    obtain ⟨xa, hxa⟩ : ∃ xa, xa = (nAt σ.notes k).author := ⟨_, rfl⟩
    rw [← hxa] at c3 e7
    clear hxa
    obtain ⟨q5, f5, l5⟩ := x5.all
    go_upto_region 6 with fail
    refine wp_region_all (fun z : BW w1.heap.size w1 => z.w) (by kernel_rfl) (by kernel_rfl) (BW.start _ _) rfl ?_
    repeat (go_big_quiet_step (first | fail))
    refine wpQuiet_nil ?_
    intro z
    have hz := z.below
    generalize z.w = w3 at *
    clear z
    have x5b := x5.keep hz
    have B3 : Below W.heap.size W w3 := B.trans (hz.mono B.size)
    clear x5 q5 f5 l5 B hz c3 c5 c6 hfz hg
    have hx := H.out.keep B3
    obtain ⟨g2, cap2, eg, hg, hfz, c0, c1, c2, c3, c4, c5, c6⟩ := hx.at hk
    cases eg
    obtain ⟨hpm, hn1, hn2, hn3, hn4⟩ := hx.nes
    have hgp := hn1 g rfl
    have hgbp := hn2 gB rfl
    have hgap := hn3 gA rfl
    have hadd : IntKind.i64.wrap (σ.count + 1) = σ.count + 1 := IntWalk.i64_in _ (by omega)
    have Hx := Lib.hid hx
    have hp5p : p ≠ p5 := by have := Hp5.out; have := H.out.bx.lt; omega
    have hgb5 : gB ≠ p5 := by have := Hp5.out; have := H.out.flt gB (H.out.fb gB rfl); omega
    have hga5 : gA ≠ p5 := by have := Hp5.out; have := H.out.flt gA (H.out.fa gA rfl); omega
    have hg5 : g ≠ p5 := by have := Hp5.out; have := H.out.flt g (H.out.fv g rfl); omega
    clear hx c0 c1 c2 c3 c4 c6
    go_upto_region 9 with fail
    refine name_world ?_
    intro w4 hw4
    have on4 : Only g w3 w4 := by rw [hw4]; exact (Only.refl g w3).set _ _
    have row4 := Hx.out.row.set k 5 hk (by omega) (.bool false)
    rw [← hw4] at row4
    have y4 := on4.bx (Ne.symm hgp.1) Hx.out.bx
    have x5c := on4.bx (Ne.symm hg5) x5b
    have On4 := Lib.hid (And.intro on4 row4)
    clear hw4 c5 hfz on4 row4 x5b
    obtain ⟨q4, f4, l4⟩ := y4.all
    go_upto_region 10 with fail
    refine name_world ?_
    intro w5 hw5
    have on5 : Only p w4 w5 := by rw [hw5]; exact (Only.refl p w4).set _ _
    have y5 : Bx w5 p 51 #[.slice (some ⟨g, 0, none⟩) σ.notes.length cap, .slice (some ⟨gB, 0, none⟩) σ.notes.length capB, .slice (some ⟨gA, 0, none⟩) σ.notes.length capA, .map (some m), .int .i64 (σ.count + 1)] := by rw [hw5]; exact y4.set 4 _
    have x5d := on5.bx (Ne.symm hp5p) x5c
    have Y5 := Lib.hid y5
    have On5 := Lib.hid on5
    clear hw5 q4 f4 l4 y4 x5c on5
    have rowB : RowN w5 9 1 (.slice (some ⟨gB, 0, none⟩) σ.notes.length capB) σ.notes.length _ := On5.out.rowN (On4.out.1.rowN Hx.out.by_ (fun b e => by simp only [Value.ownBlock, Option.some.injEq] at e; subst e; rintro rfl; exact hgbp.2.2.1 rfl)) (fun b e => by simp only [Value.ownBlock, Option.some.injEq] at e; subst e; exact hgbp.1)
    have rowA : RowN w5 3 1 (.slice (some ⟨gA, 0, none⟩) σ.notes.length capA) σ.notes.length _ := On5.out.rowN (On4.out.1.rowN Hx.out.at_ (fun b e => by simp only [Value.ownBlock, Option.some.injEq] at e; subst e; rintro rfl; exact hgap.2.2.1 rfl)) (fun b e => by simp only [Value.ownBlock, Option.some.injEq] at e; subst e; exact hgap.1)
    have hab : gB ≠ gA := fun e => hgbp.2.2.2 (by rw [e]; rfl)
    have Rows := Lib.hid (And.intro rowB rowA)
    obtain ⟨gB2, capB2, eB, _, _, _, hcB, hfB⟩ := rowB.open (by omega)
    cases eB
    obtain ⟨gA2, capA2, eA, _, _, _, hcA, hfA⟩ := rowA.open (by omega)
    cases eA
    have dB : w5.cell? ⟨gB, k, none⟩ = some (.string (nAt σ.notes k).closer) := by have := hcB k 0 hk (by omega); simpa using this
    have dA : w5.cell? ⟨gA, k, none⟩ = some (.int .i64 (nAt σ.notes k).closed) := by have := hcA k 0 hk (by omega); simpa using this
    have zB := hfB k
    have zA := hfA k
    clear hcB hfB hcA hfA rowB rowA
    have l0 : w5.cell? ⟨p5, 0, none⟩ = some (.string author) := x5d.all.1 0
    have l1 : w5.cell? ⟨p, 1, none⟩ = some (.slice (some ⟨gB, 0, none⟩) σ.notes.length capB) := Y5.out.all.1 1
    have l2 : w5.cell? ⟨p, 2, none⟩ = some (.slice (some ⟨gA, 0, none⟩) σ.notes.length capA) := Y5.out.all.1 2
    have l4 : w5.cell? ⟨p, 4, none⟩ = some (.int .i64 (σ.count + 1)) := Y5.out.all.1 4
    have ngb := hgbp.1
    have nga := hgap.1
    clear y5 x5d
    have s1 : IntKind.i64.wrap (k : Int) = (k : Int) := IntWalk.i64_in _ (by omega)
    have s0 : IntKind.i64.wrap ((k : Int) + 1 - 1) = (k : Int) := by rw [show (k : Int) + 1 - 1 = k by omega]; exact s1
    have s2 : (0 : Int) ≤ (k : Int) := by omega
    go_region_held3 (fun w' => w'.cell? ⟨p5, 0, none⟩ = some (.string author) ∧ w'.cell? ⟨p, 1, none⟩ = some (.slice (some ⟨gB, 0, none⟩) σ.notes.length capB) ∧ w'.cell? ⟨p, 2, none⟩ = some (.slice (some ⟨gA, 0, none⟩) σ.notes.length capA) ∧ w'.cell? ⟨p, 4, none⟩ = some (.int .i64 (σ.count + 1))) (go_keep) (first | fail)
    all_goals
      go_wp2_with fail
      go_ret
      refine ⟨rfl, ?_⟩
      have hX := Hx.out
      obtain ⟨on4, row4⟩ := On4.out
      obtain ⟨rowB, rowA⟩ := Rows.out
      have onB : Only gB w5 (w5.setCell ⟨gB, k, none⟩ (.string author)) := (Only.refl gB w5).set _ _
      have rowB1 := rowB.set k 0 hk (by omega) (.string author)
      simp only [Nat.mul_one, Nat.add_zero] at rowB1
      generalize hwB : w5.setCell ⟨gB, k, none⟩ (.string author) = wB at *
      have onA : Only gA wB (wB.setCell ⟨gA, k, none⟩ (.int .i64 (σ.count + 1))) := (Only.refl gA wB).set _ _
      have rowA1 := (onB.rowN rowA (fun b e => by simp only [Value.ownBlock, Option.some.injEq] at e; omega)).set k 0 hk (by omega) (.int .i64 (σ.count + 1))
      simp only [Nat.mul_one, Nat.add_zero] at rowA1
      generalize hwA : wB.setCell ⟨gA, k, none⟩ (.int .i64 (σ.count + 1)) = wA at *
      have rowB2 := onA.rowN rowB1 (fun b e => by simp only [Value.ownBlock, Option.some.injEq] at e; omega)
      have hkeep : ∀ b, b ≠ p → b ≠ g → b ≠ gB → b ≠ gA → wA.drew.heap[b]? = w3.heap[b]? := fun b h1 h2 h3 h4 => (onA.block b h4).trans ((onB.block b h3).trans ((On5.out.block b h1).trans (on4.block b h2)))
      have hnp : ∀ {b q : Nat} {n c : Nat}, (Value.slice (some ⟨q, 0, none⟩) n c).ownBlock ≠ some b → b ≠ q := fun h e => h (by rw [e]; rfl)
      refine RO.changed (w := w3) (r := rv k) hX B3 hk ?_ _ ((onA.rowN (onB.rowN (On5.out.rowN row4 (fun b e => by simp only [Value.ownBlock, Option.some.injEq] at e; subst e; exact hgp.1)) (fun b e => by simp only [Value.ownBlock, Option.some.injEq] at e; subst e; exact hnp hgp.2.2.1)) (fun b e => by simp only [Value.ownBlock, Option.some.injEq] at e; subst e; exact hnp hgp.2.2.2)).lift fun _ _ _ => rfl) ?_ _ (rowB2.lift fun _ _ _ => rfl) ?_ _ (rowA1.lift fun _ _ _ => rfl) ?_ ?_ ?_ ?_ ?_ ?_ ?_
      · exact onA.bx (Ne.symm nga) (onB.bx (Ne.symm ngb) Y5.out)
      · intro k' j h1 h2
        rw [mcell_set hk]
        by_cases hkk : k' = k
        · subst hkk
          rcases (by omega : j = 0 ∨ j = 1 ∨ j = 2 ∨ j = 3 ∨ j = 4 ∨ j = 5 ∨ j = 6) with rfl | rfl | rfl | rfl | rfl | rfl | rfl <;> simp [mcell, ncell]
        · rw [if_neg hkk, if_neg (by omega)]
      · intro k' h1
        rw [nAt_set hk]
        by_cases hkk : k' = k
        · simp [hkk]
        · simp [hkk]
      · intro k' h1
        rw [nAt_set hk]
        by_cases hkk : k' = k
        · simp [hkk]
        · simp [hkk]
      · exact (hX.reps k hk).lift fun b e _ => by
          obtain ⟨a1, a2, a3, a4, a5⟩ := hn4 k hk b e
          exact hkeep b a1 (hnp a3) (hnp a4) (hnp a5)
      · exact hX.map.lift (hkeep m (Ne.symm hpm) (Ne.symm hgp.2.1) (Ne.symm hgbp.2.1) (Ne.symm hgap.2.1))
      · exact fun b e => .inl e
      · show w3.heap.size ≤ wA.heap.size
        rw [onA.size, onB.size, On5.out.size, on4.size]; exact Nat.le_refl _
      · exact ⟨onA.os.trans (onB.os.trans (On5.out.os.trans on4.os)), onA.tape.trans (onB.tape.trans (On5.out.tape.trans on4.tape)), onA.output.trans (onB.output.trans (On5.out.output.trans on4.output))⟩
      · intro b h1 h2 h3 h4 h5 h6
        exact hkeep b h2 (hnp h4) (hnp h5) (hnp h6)
end Go.Proofs.YtilninaminaadaaGreatDoor
