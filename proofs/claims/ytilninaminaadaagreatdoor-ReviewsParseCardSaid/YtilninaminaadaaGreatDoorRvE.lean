/- conform's Review: Close. (printed by gen_rve.py) -/
import Derived.Test.YtilninaminaadaaGreatDoorRvD
import Derived.Test.YtilninaminaadaaGreatDoorRel
import Derived.Deep.RegionHeld3
namespace Go.Proofs.YtilninaminaadaaGreatDoor
open Go.RowKit

set_option maxRecDepth 100000 in
set_option maxHeartbeats 8000000 in
theorem conform_Close_err (p : Nat) (σ : Rv) (F : Nat → Prop) (vn : Value) (m : Nat) (rv : Nat → Value) (n : Int) (author : ByteArray) (W : World) (h : VO W p σ F vn m rv) (wf : Wf σ) (he : closeE σ n author ≠ 0) :
    Calls Tryz.prog 21 #[.pointer (some ⟨p, 0, none⟩), .int .i64 n, .string author] W fun e w' => e = .returned (.int .i64 (closeE σ n author)) ∧ Below W.heap.size W w' := by
  unfold closeE at he ⊢
  have hlen := wf.len
  have hplt := h.bx.lt
  by_cases h1 : n < 1 ∨ (σ.notes.length : Int) < n
  · have e1 : ntE σ n author = 11 := by unfold ntE; rw [if_pos h1]
    rw [e1, if_pos (by decide)]
    have K := Lib.hid (h.find_none h1)
    clear he h wf e1 h1
    go_enter Tryz.func21, Tryz.ntmps21
    go_upto_region 1 with fail
    refine name_world ?_
    intro w0 hw0
    have x5 : Bx w0 W.heap.size 9 #[.string author] := by rw [hw0]; exact Bx.new _ _ _
    have B : Below W.heap.size W w0 := by rw [hw0]; exact bnew (Below.refl _ W)
    clear hw0
    obtain ⟨p5, hp5⟩ : ∃ p5, p5 = W.heap.size := ⟨_, rfl⟩
    rw [← hp5] at x5 ⊢
    have Hp5 := Lib.hid hp5
    clear hp5
    go_wp2_with fail
    refine (K.out w0 B).mono ?_
    rintro e w1 ⟨rfl, hb⟩
    replace x5 := x5.keep hb
    replace B := bcall B hb
    clear hb
    obtain ⟨q5, f5, l5⟩ := x5.all
    go_wp2_with fail
    go_ret
    exact ⟨rfl, B⟩
  have h11 : 1 ≤ n := by omega
  have h12 : n ≤ σ.notes.length := by omega
  obtain ⟨g, cap, rfl, hfind⟩ := h.find_at hlen h11 h12
  have K := Lib.hid hfind
  clear hfind
  by_cases h2 : nameB author = false
  · have e1 : ntE σ n author = 6 := by unfold ntE; rw [if_neg h1, if_pos h2]
    rw [e1, if_pos (by decide)]
    clear he h wf e1 h1 h11 h12
    go_enter Tryz.func21, Tryz.ntmps21
    go_upto_region 1 with fail
    refine name_world ?_
    intro w0 hw0
    have x5 : Bx w0 W.heap.size 9 #[.string author] := by rw [hw0]; exact Bx.new _ _ _
    have B : Below W.heap.size W w0 := by rw [hw0]; exact bnew (Below.refl _ W)
    clear hw0
    obtain ⟨p5, hp5⟩ : ∃ p5, p5 = W.heap.size := ⟨_, rfl⟩
    rw [← hp5] at x5 ⊢
    have Hp5 := Lib.hid hp5
    clear hp5
    go_wp2_with fail
    refine (K.out w0 B).mono ?_
    rintro e w1 ⟨rfl, hb⟩
    replace x5 := x5.keep hb
    replace B := bcall B hb
    clear hb
    obtain ⟨q5, f5, l5⟩ := x5.all
    go_wp2_with fail
    refine (conform_isName _ _).mono ?_
    rintro e w2 ⟨rfl, hb⟩
    replace x5 := x5.keep hb
    replace B := bcall B hb
    clear hb q5 f5 l5
    go_wp2_with fail
    go_ret
    exact ⟨rfl, B⟩
  replace h2 : nameB author = true := by simpa using h2
  have e1 : ntE σ n author = 0 := by unfold ntE; rw [if_neg h1, if_neg (by rw [h2]; simp)]
  rw [e1, if_neg (by decide)] at he ⊢
  clear e1
  have hk : ntI n < σ.notes.length := by unfold ntI; omega
  have hxx : ntA σ n = nAt σ.notes (ntI n) := rfl
  rw [hxx] at he ⊢
  clear hxx
  have H := Lib.hid h
  have hwf := wf.notes _ (nAt_mem hk)
  generalize ntI n = k at *
  by_cases h6 : (nAt σ.notes k).opn = false
  · rw [if_pos h6]
    have Ho := Lib.hid h6
    clear he h wf h1 h11 h12 h6 hwf
    go_enter Tryz.func21, Tryz.ntmps21
    go_upto_region 1 with fail
    refine name_world ?_
    intro w0 hw0
    have x5 : Bx w0 W.heap.size 9 #[.string author] := by rw [hw0]; exact Bx.new _ _ _
    have B : Below W.heap.size W w0 := by rw [hw0]; exact bnew (Below.refl _ W)
    clear hw0
    obtain ⟨p5, hp5⟩ : ∃ p5, p5 = W.heap.size := ⟨_, rfl⟩
    rw [← hp5] at x5 ⊢
    have Hp5 := Lib.hid hp5
    clear hp5
    go_wp2_with fail
    refine (K.out w0 B).mono ?_
    rintro e w1 ⟨rfl, hb⟩
    replace x5 := x5.keep hb
    replace B := bcall B hb
    clear hb
    obtain ⟨q5, f5, l5⟩ := x5.all
    go_wp2_with fail
    refine (conform_isName _ _).mono ?_
    rintro e w2 ⟨rfl, hb⟩
    replace x5 := x5.keep hb
    replace B := bcall B hb
    clear hb q5 f5 l5
    have hx := H.out.keep B
    obtain ⟨g2, cap2, eg, hg, hfz, c0, c1, c2, c3, c4, c5, c6, c7, c8⟩ := hx.at hk
    cases eg
    clear c0 c1 c2 c4 c7 c8
    rw [Ho.out] at c5
    clear c3 c6
    go_wp2_with fail
    go_ret
    exact ⟨rfl, B⟩
  replace h6 : (nAt σ.notes k).opn = true := by simpa using h6
  rw [if_neg (by rw [h6]; simp)] at he ⊢
  by_cases h7 : author = (nAt σ.notes k).author ∧ ((nAt σ.notes k).reps.any fun y => !decide (y.author = author)) = false
  · rw [if_pos h7]
    have Ho := Lib.hid h6
    have H7 := Lib.hid h7.2
    have e7 : (author.toList == (nAt σ.notes k).author.toList) = true := by rw [str_beq]; exact decide_eq_true h7.1
    have hrl : (nAt σ.notes k).reps.length ≤ 1000000 := by have := hwf.reps.1; omega
    clear he h wf h1 h11 h12 h6 h7 hwf
    go_enter Tryz.func21, Tryz.ntmps21
    go_upto_region 1 with fail
    refine name_world ?_
    intro w0 hw0
    have x5 : Bx w0 W.heap.size 9 #[.string author] := by rw [hw0]; exact Bx.new _ _ _
    have B : Below W.heap.size W w0 := by rw [hw0]; exact bnew (Below.refl _ W)
    clear hw0
    obtain ⟨p5, hp5⟩ : ∃ p5, p5 = W.heap.size := ⟨_, rfl⟩
    rw [← hp5] at x5 ⊢
    have Hp5 := Lib.hid hp5
    clear hp5
    go_wp2_with fail
    refine (K.out w0 B).mono ?_
    rintro e w1 ⟨rfl, hb⟩
    replace x5 := x5.keep hb
    replace B := bcall B hb
    clear hb
    obtain ⟨q5, f5, l5⟩ := x5.all
    go_wp2_with fail
    refine (conform_isName _ _).mono ?_
    rintro e w2 ⟨rfl, hb⟩
    replace x5 := x5.keep hb
    replace B := bcall B hb
    clear hb q5 f5 l5
    have hx := H.out.keep B
    obtain ⟨g2, cap2, eg, hg, hfz, c0, c1, c2, c3, c4, c5, c6, c7, c8⟩ := hx.at hk
    cases eg
    clear c0 c1 c2 c4 c7 c8
    rw [Ho.out] at c5
    have hrep := hx.reps k hk
    obtain ⟨ra, rc, er, _, _⟩ := hrep.form
    have HR := Lib.hid hrep
    rw [er] at c6
    have Er := Lib.hid er
    clear er hrep hx
    generalize (nAt σ.notes k).author = xa at *
    obtain ⟨q5, f5, l5⟩ := x5.all
    have KC : Hid (∀ z : BW w2.heap.size w2, Calls Tryz.prog 52 #[.slice ra (nAt σ.notes k).reps.length rc, .func (.func 53) #[] #[.pointer (some ⟨p5, 0, none⟩)]] z.w fun e w' => e = .returned (.bool false) ∧ Below z.w.heap.size z.w w') := Lib.hid (fun z => by have t := cl_contains author z.w (HR.out.keep z.below) hrl (x5.keep z.below); rw [Er.out, H7.out] at t; exact t)
    go_upto_region 8 with fail
    refine wp_region_all (fun z : BW w2.heap.size w2 => z.w) (by kernel_rfl) (by kernel_rfl) (BW.start _ _) rfl ?_
    repeat (go_big_quiet_step (first | (go_at_call 52; exact BW.call (Nat.le_refl _) _ (KC.out _))))
    refine wpQuiet_nil ?_
    intro z
    have B2 : Below W.heap.size W z.w := B.trans (z.below.mono B.size)
    generalize z.w = wz at *
    clear z
    go_wp2_with fail
    go_ret
    exact ⟨rfl, B2⟩
  rw [if_neg h7] at he
  exact absurd rfl he

set_option maxRecDepth 100000 in
set_option maxHeartbeats 16000000 in
theorem conform_Close_ok (p : Nat) (σ : Rv) (F : Nat → Prop) (vn : Value) (m : Nat) (rv : Nat → Value) (n : Int) (author : ByteArray) (W : World) (h : VO W p σ F vn m rv) (wf : Wf σ) (hcnt : σ.count ≤ 1000000) (he : closeE σ n author = 0) :
    Calls Tryz.prog 21 #[.pointer (some ⟨p, 0, none⟩), .int .i64 n, .string author] W fun e w' => e = .returned (.int .i64 0) ∧ VGo W p (closeS σ n author) F w' := by
  unfold closeE at he
  have hlen := wf.len
  have hplt := h.bx.lt
  split at he; · exact absurd he ‹_›
  rename_i h0
  obtain ⟨h11, h12, hk, h2, _, hwf⟩ := wf.at (by simpa using h0)
  split at he; · cases he
  split at he; · cases he
  rename_i h6 h7
  have Ho : Hid ((nAt σ.notes (ntI n)).opn = true) := Lib.hid (by have h6 : ¬ (nAt σ.notes (ntI n)).opn = false := h6; simpa using h6)
  have H7 : Hid (¬ (author = (nAt σ.notes (ntI n)).author ∧ ((nAt σ.notes (ntI n)).reps.any fun y => !decide (y.author = author)) = false)) := Lib.hid h7
  have hrl : (nAt σ.notes (ntI n)).reps.length ≤ 1000000 := by have : (nAt σ.notes (ntI n)).reps.length ≤ 100 := hwf.reps.1; omega
  obtain ⟨g, cap, rfl, hfind⟩ := h.find_at hlen h11 h12
  have K := Lib.hid hfind
  have H := Lib.hid h
  show Calls _ _ _ W fun e w' => e = .returned (.int .i64 0) ∧ VGo W p ⟨σ.notes.set (ntI n) { nAt σ.notes (ntI n) with opn := false, closer := author, closed := σ.count + 1 }, σ.appr, σ.count + 1⟩ F w'
  obtain ⟨k, hkn⟩ : ∃ k, k = ntI n := ⟨_, rfl⟩
  rw [← hkn] at hk Ho H7 hrl K ⊢
  have hc0 := wf.count
  clear he h wf h11 h12 h6 h7 hfind h0 hkn hwf
  by_cases h8 : author = (nAt σ.notes k).author
  · have e7 : (author.toList == (nAt σ.notes k).author.toList) = true := by rw [str_beq]; exact decide_eq_true h8
    have h7 : Hid (((nAt σ.notes k).reps.any fun y => !decide (y.author = author)) = true) := Lib.hid (by simpa using fun e => H7.out ⟨h8, e⟩)
    clear H7 h8
    go_enter Tryz.func21, Tryz.ntmps21
    go_upto_region 1 with fail
    refine name_world ?_
    intro w0 hw0
    have x5 : Bx w0 W.heap.size 9 #[.string author] := by rw [hw0]; exact Bx.new _ _ _
    have B : Below W.heap.size W w0 := by rw [hw0]; exact bnew (Below.refl _ W)
    clear hw0
    obtain ⟨p5, hp5⟩ : ∃ p5, p5 = W.heap.size := ⟨_, rfl⟩
    rw [← hp5] at x5 ⊢
    have Hp5 := Lib.hid hp5
    clear hp5
    go_wp2_with fail
    refine (K.out w0 B).mono ?_
    rintro e w1 ⟨rfl, hb⟩
    replace x5 := x5.keep hb
    replace B := bcall B hb
    clear hb
    obtain ⟨q5, f5, l5⟩ := x5.all
    go_wp2_with fail
    refine (conform_isName _ _).mono ?_
    rintro e w2 ⟨rfl, hb⟩
    replace x5 := x5.keep hb
    replace B := bcall B hb
    clear hb q5 f5 l5
    have hx := H.out.keep B
    obtain ⟨g2, cap2, eg, hg, hfz, c0, c1, c2, c3, c4, c5, c6, c7, c8⟩ := hx.at hk
    cases eg
    clear c0 c1 c2 c4 c7 c8
    rw [Ho.out] at c5
    have hrep := hx.reps k hk
    obtain ⟨ra, rc, er, _, _⟩ := hrep.form
    have HR := Lib.hid hrep
    rw [er] at c6
    have Er := Lib.hid er
    clear er hrep hx
    obtain ⟨xa, hxa⟩ : ∃ xa, xa = (nAt σ.notes k).author := ⟨_, rfl⟩
    rw [← hxa] at c3 e7
    clear hxa
    obtain ⟨q5, f5, l5⟩ := x5.all
    have KC : Hid (∀ z : BW w2.heap.size w2, Calls Tryz.prog 52 #[.slice ra (nAt σ.notes k).reps.length rc, .func (.func 53) #[] #[.pointer (some ⟨p5, 0, none⟩)]] z.w fun e w' => e = .returned (.bool true) ∧ Below z.w.heap.size z.w w') := Lib.hid (fun z => by have t := cl_contains author z.w (HR.out.keep z.below) hrl (x5.keep z.below); rw [Er.out, h7.out] at t; exact t)
    go_upto_region 8 with fail
    refine wp_region_all (fun z : BW w2.heap.size w2 => z.w) (by kernel_rfl) (by kernel_rfl) (BW.start _ _) rfl ?_
    repeat (go_big_quiet_step (first | (go_at_call 52; exact BW.call (Nat.le_refl _) _ (KC.out _))))
    refine wpQuiet_nil ?_
    intro z
    have hz := z.below
    generalize z.w = w3 at *
    clear z
    have x5b := x5.keep hz
    have B3 : Below W.heap.size W w3 := B.trans (hz.mono B.size)
    clear x5 q5 f5 l5 B hz c3 c5 c6 hfz hg
    have hx := H.out.keep B3
    obtain ⟨g2, cap2, eg, hg, hfz, c0, c1, c2, c3, c4, c5, c6, c7, c8⟩ := hx.at hk
    cases eg
    obtain ⟨qp, fp, lp⟩ := hx.bx.all
    obtain ⟨q5, f5, l5⟩ := x5b.all
    have hadd : IntKind.i64.wrap (σ.count + 1) = σ.count + 1 := IntWalk.i64_in _ (by omega)
    have hgp := hx.ne_vp g rfl
    have Hx := Lib.hid hx
    have hp5p : p ≠ p5 := by have := Hp5.out; omega
    have hgp5 : g ≠ p5 := by
      obtain ⟨cur, hc⟩ := hx.row.typed g rfl
      exact types_ne hc x5b (by decide)
    clear hx c0 c1 c2 c3 c4 c6
    go_upto_region 11 with fail
    refine name_world ?_
    intro w4 hw4
    have on4 : Only p w3 w4 := by rw [hw4]; exact (Only.refl p w3).set _ _
    have y4 : Bx w4 p 47 #[.slice (some ⟨g, 0, none⟩) σ.notes.length cap, .map (some m), .int .i64 (σ.count + 1)] := by rw [hw4]; exact Hx.out.bx.set 2 _
    clear hw4
    have x5c := on4.bx (Ne.symm hp5p) x5b
    have hcell : ∀ o, w4.cell? ⟨g, o, none⟩ = w3.cell? ⟨g, o, none⟩ ∧ w4.frozen? ⟨g, o, none⟩ = w3.frozen? ⟨g, o, none⟩ := fun o => ⟨World.cell?_of_block (a := ⟨g, o, none⟩) (on4.block g hgp.1), World.frozen?_of_block (a := ⟨g, o, none⟩) (on4.block g hgp.1)⟩
    have d5 : w4.cell? ⟨g, k * 9 + 5, none⟩ = some (.bool true) := by rw [(hcell _).1, c5, Ho.out]
    have d7 : w4.cell? ⟨g, k * 9 + 7, none⟩ = some (.string (nAt σ.notes k).closer) := by rw [(hcell _).1, c7]
    have d8 : w4.cell? ⟨g, k * 9 + 8, none⟩ = some (.int .i64 (nAt σ.notes k).closed) := by rw [(hcell _).1, c8]
    have z4 : ∀ o, w4.frozen? ⟨g, o, none⟩ = false := fun o => (hcell o).2.trans (hfz o)
    clear hcell c5 c7 c8 hfz q5 f5 l5 qp fp lp
    have l0 : w4.cell? ⟨p5, 0, none⟩ = some (.string author) := x5c.all.1 0
    have l2 : w4.cell? ⟨p, 2, none⟩ = some (.int .i64 (σ.count + 1)) := y4.all.1 2
    go_region_held3 (fun w' => w'.cell? ⟨p5, 0, none⟩ = some (.string author) ∧ w'.cell? ⟨p, 2, none⟩ = some (.int .i64 (σ.count + 1))) (go_keep) (first | fail)
    all_goals
      go_wp2_with fail
      go_ret
      refine ⟨rfl, ?_⟩
      have hX := Hx.out
      have on5 : Only g w4 (((w4.setCell ⟨g, k * 9 + 5, none⟩ (.bool false)).setCell ⟨g, k * 9 + 7, none⟩ (.string author)).setCell ⟨g, k * 9 + 8, none⟩ (.int .i64 (σ.count + 1))).drew := by
        have := (((Only.refl g w4).set (k * 9 + 5) (.bool false)).set (k * 9 + 7) (.string author)).set (k * 9 + 8) (.int .i64 (σ.count + 1))
        exact ⟨this.os, this.tape, this.output, this.size, this.block⟩
      have row4 : RowN w4 67 9 (.slice (some ⟨g, 0, none⟩) σ.notes.length cap) σ.notes.length (ncell σ.notes rv) := on4.rowN hX.row (fun b e => by simp only [Value.ownBlock, Option.some.injEq] at e; omega)
      have row5 := ((row4.set k 5 hk (by omega) (.bool false)).set k 7 hk (by omega) (.string author)).set k 8 hk (by omega) (.int .i64 (σ.count + 1))
      generalize hw5 : ((w4.setCell ⟨g, k * 9 + 5, none⟩ (.bool false)).setCell ⟨g, k * 9 + 7, none⟩ (.string author)).setCell ⟨g, k * 9 + 8, none⟩ (.int .i64 (σ.count + 1)) = w5 at *
      have hkeep : ∀ b, b ≠ p → b ≠ g → w5.drew.heap[b]? = w3.heap[b]? := fun b h1 h2 => (on5.block b h2).trans (on4.block b h1)
      refine VO.changed (w := w3) (r := rv k) hX B3 hk ?_ _ (row5.lift fun _ _ _ => rfl) ?_ ?_ ?_ ?_ ?_ ?_ ?_
      · exact on5.bx (Ne.symm hgp.1) y4
      · intro k' j h1 h2
        rw [ncell_set hk]
        by_cases hkk : k' = k
        · subst hkk
          rcases (by omega : j = 0 ∨ j = 1 ∨ j = 2 ∨ j = 3 ∨ j = 4 ∨ j = 5 ∨ j = 6 ∨ j = 7 ∨ j = 8) with rfl | rfl | rfl | rfl | rfl | rfl | rfl | rfl | rfl <;> simp [ncell]
        · simp [hkk]
      · exact (hX.reps k hk).lift fun b e _ => by
          obtain ⟨a1, a2, a3⟩ := hX.ne_r k hk b e
          exact hkeep b a1 (fun e2 => a3 (by rw [e2]; rfl))
      · exact hX.map.lift (hkeep m (Ne.symm hX.ne_pm) (Ne.symm hgp.2))
      · exact fun b e => .inl e
      · rw [on5.size, on4.size]; exact Nat.le_refl _
      · exact ⟨on5.os.trans on4.os, on5.tape.trans on4.tape, on5.output.trans on4.output⟩
      · intro b h1 h2 h3 h4 h5
        exact hkeep b h2 (fun e => h4 (by rw [e]; rfl))
  · have e7 : (author.toList == (nAt σ.notes k).author.toList) = false := by rw [str_beq]; exact decide_eq_false h8
    clear H7 h8
    go_enter Tryz.func21, Tryz.ntmps21
    go_upto_region 1 with fail
    refine name_world ?_
    intro w0 hw0
    have x5 : Bx w0 W.heap.size 9 #[.string author] := by rw [hw0]; exact Bx.new _ _ _
    have B : Below W.heap.size W w0 := by rw [hw0]; exact bnew (Below.refl _ W)
    clear hw0
    obtain ⟨p5, hp5⟩ : ∃ p5, p5 = W.heap.size := ⟨_, rfl⟩
    rw [← hp5] at x5 ⊢
    have Hp5 := Lib.hid hp5
    clear hp5
    go_wp2_with fail
    refine (K.out w0 B).mono ?_
    rintro e w1 ⟨rfl, hb⟩
    replace x5 := x5.keep hb
    replace B := bcall B hb
    clear hb
    obtain ⟨q5, f5, l5⟩ := x5.all
    go_wp2_with fail
    refine (conform_isName _ _).mono ?_
    rintro e w2 ⟨rfl, hb⟩
    replace x5 := x5.keep hb
    replace B := bcall B hb
    clear hb q5 f5 l5
    have hx := H.out.keep B
    obtain ⟨g2, cap2, eg, hg, hfz, c0, c1, c2, c3, c4, c5, c6, c7, c8⟩ := hx.at hk
    cases eg
    clear c0 c1 c2 c4 c7 c8
    rw [Ho.out] at c5
    have hrep := hx.reps k hk
    obtain ⟨ra, rc, er, _, _⟩ := hrep.form
    have HR := Lib.hid hrep
    rw [er] at c6
    have Er := Lib.hid er
    clear er hrep hx
    obtain ⟨xa, hxa⟩ : ∃ xa, xa = (nAt σ.notes k).author := ⟨_, rfl⟩
    rw [← hxa] at c3 e7
    clear hxa
    obtain ⟨q5, f5, l5⟩ := x5.all
    go_upto_region 8 with fail
    refine wp_region_all (fun z : BW w2.heap.size w2 => z.w) (by kernel_rfl) (by kernel_rfl) (BW.start _ _) rfl ?_
    repeat (go_big_quiet_step (first | fail))
    refine wpQuiet_nil ?_
    intro z
    have hz := z.below
    generalize z.w = w3 at *
    clear z
    have x5b := x5.keep hz
    have B3 : Below W.heap.size W w3 := B.trans (hz.mono B.size)
    clear x5 q5 f5 l5 B hz c3 c5 c6 hfz hg
    have hx := H.out.keep B3
    obtain ⟨g2, cap2, eg, hg, hfz, c0, c1, c2, c3, c4, c5, c6, c7, c8⟩ := hx.at hk
    cases eg
    obtain ⟨qp, fp, lp⟩ := hx.bx.all
    obtain ⟨q5, f5, l5⟩ := x5b.all
    have hadd : IntKind.i64.wrap (σ.count + 1) = σ.count + 1 := IntWalk.i64_in _ (by omega)
    have hgp := hx.ne_vp g rfl
    have Hx := Lib.hid hx
    have hp5p : p ≠ p5 := by have := Hp5.out; omega
    have hgp5 : g ≠ p5 := by
      obtain ⟨cur, hc⟩ := hx.row.typed g rfl
      exact types_ne hc x5b (by decide)
    clear hx c0 c1 c2 c3 c4 c6
    go_upto_region 11 with fail
    refine name_world ?_
    intro w4 hw4
    have on4 : Only p w3 w4 := by rw [hw4]; exact (Only.refl p w3).set _ _
    have y4 : Bx w4 p 47 #[.slice (some ⟨g, 0, none⟩) σ.notes.length cap, .map (some m), .int .i64 (σ.count + 1)] := by rw [hw4]; exact Hx.out.bx.set 2 _
    clear hw4
    have x5c := on4.bx (Ne.symm hp5p) x5b
    have hcell : ∀ o, w4.cell? ⟨g, o, none⟩ = w3.cell? ⟨g, o, none⟩ ∧ w4.frozen? ⟨g, o, none⟩ = w3.frozen? ⟨g, o, none⟩ := fun o => ⟨World.cell?_of_block (a := ⟨g, o, none⟩) (on4.block g hgp.1), World.frozen?_of_block (a := ⟨g, o, none⟩) (on4.block g hgp.1)⟩
    have d5 : w4.cell? ⟨g, k * 9 + 5, none⟩ = some (.bool true) := by rw [(hcell _).1, c5, Ho.out]
    have d7 : w4.cell? ⟨g, k * 9 + 7, none⟩ = some (.string (nAt σ.notes k).closer) := by rw [(hcell _).1, c7]
    have d8 : w4.cell? ⟨g, k * 9 + 8, none⟩ = some (.int .i64 (nAt σ.notes k).closed) := by rw [(hcell _).1, c8]
    have z4 : ∀ o, w4.frozen? ⟨g, o, none⟩ = false := fun o => (hcell o).2.trans (hfz o)
    clear hcell c5 c7 c8 hfz q5 f5 l5 qp fp lp
    have l0 : w4.cell? ⟨p5, 0, none⟩ = some (.string author) := x5c.all.1 0
    have l2 : w4.cell? ⟨p, 2, none⟩ = some (.int .i64 (σ.count + 1)) := y4.all.1 2
    go_region_held3 (fun w' => w'.cell? ⟨p5, 0, none⟩ = some (.string author) ∧ w'.cell? ⟨p, 2, none⟩ = some (.int .i64 (σ.count + 1))) (go_keep) (first | fail)
    all_goals
      go_wp2_with fail
      go_ret
      refine ⟨rfl, ?_⟩
      have hX := Hx.out
      have on5 : Only g w4 (((w4.setCell ⟨g, k * 9 + 5, none⟩ (.bool false)).setCell ⟨g, k * 9 + 7, none⟩ (.string author)).setCell ⟨g, k * 9 + 8, none⟩ (.int .i64 (σ.count + 1))).drew := by
        have := (((Only.refl g w4).set (k * 9 + 5) (.bool false)).set (k * 9 + 7) (.string author)).set (k * 9 + 8) (.int .i64 (σ.count + 1))
        exact ⟨this.os, this.tape, this.output, this.size, this.block⟩
      have row4 : RowN w4 67 9 (.slice (some ⟨g, 0, none⟩) σ.notes.length cap) σ.notes.length (ncell σ.notes rv) := on4.rowN hX.row (fun b e => by simp only [Value.ownBlock, Option.some.injEq] at e; omega)
      have row5 := ((row4.set k 5 hk (by omega) (.bool false)).set k 7 hk (by omega) (.string author)).set k 8 hk (by omega) (.int .i64 (σ.count + 1))
      generalize hw5 : ((w4.setCell ⟨g, k * 9 + 5, none⟩ (.bool false)).setCell ⟨g, k * 9 + 7, none⟩ (.string author)).setCell ⟨g, k * 9 + 8, none⟩ (.int .i64 (σ.count + 1)) = w5 at *
      have hkeep : ∀ b, b ≠ p → b ≠ g → w5.drew.heap[b]? = w3.heap[b]? := fun b h1 h2 => (on5.block b h2).trans (on4.block b h1)
      refine VO.changed (w := w3) (r := rv k) hX B3 hk ?_ _ (row5.lift fun _ _ _ => rfl) ?_ ?_ ?_ ?_ ?_ ?_ ?_
      · exact on5.bx (Ne.symm hgp.1) y4
      · intro k' j h1 h2
        rw [ncell_set hk]
        by_cases hkk : k' = k
        · subst hkk
          rcases (by omega : j = 0 ∨ j = 1 ∨ j = 2 ∨ j = 3 ∨ j = 4 ∨ j = 5 ∨ j = 6 ∨ j = 7 ∨ j = 8) with rfl | rfl | rfl | rfl | rfl | rfl | rfl | rfl | rfl <;> simp [ncell]
        · simp [hkk]
      · exact (hX.reps k hk).lift fun b e _ => by
          obtain ⟨a1, a2, a3⟩ := hX.ne_r k hk b e
          exact hkeep b a1 (fun e2 => a3 (by rw [e2]; rfl))
      · exact hX.map.lift (hkeep m (Ne.symm hX.ne_pm) (Ne.symm hgp.2))
      · exact fun b e => .inl e
      · rw [on5.size, on4.size]; exact Nat.le_refl _
      · exact ⟨on5.os.trans on4.os, on5.tape.trans on4.tape, on5.output.trans on4.output⟩
      · intro b h1 h2 h3 h4 h5
        exact hkeep b h2 (fun e => h4 (by rw [e]; rfl))
end Go.Proofs.YtilninaminaadaaGreatDoor
