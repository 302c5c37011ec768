/- dyeref1's Review: Reply. (printed by gen_rvl.py) -/
import Derived.Test.YtilninaminaadaaGreatDoorRvJ
namespace Go.Proofs.YtilninaminaadaaGreatDoor
open Go.RowKit

/-- One note of the reference's review has been changed. -/
theorem RO.changed {W w w' : World} {p : Nat} {σ : Rv} {F : Nat → Prop} {vn vb va : Value} {m : Nat} {rv : Nat → Value} {k : Nat} {x : Nt} {r : Value} {A : List (ByteArray × ByteArray)} {cnt : Int} (h : RO w p σ F vn vb va m rv) (hW : Below W.heap.size W w) (hk : k < σ.notes.length)
    (h1 : Bx w' p 51 #[vn, vb, va, .map (some m), .int .i64 cnt])
    (c' : Nat → Nat → Value) (h2 : RowN w' 65 7 vn σ.notes.length c') (hc : ∀ k' j, k' < σ.notes.length → j < 7 → mcell (σ.notes.set k x) (fun i => if i = k then r else rv i) k' j = c' k' j)
    (cb' : Nat → Nat → Value) (h2b : RowN w' 9 1 vb σ.notes.length cb') (hcb : ∀ k', k' < σ.notes.length → Value.string (nAt (σ.notes.set k x) k').closer = cb' k' 0)
    (ca' : Nat → Nat → Value) (h2a : RowN w' 3 1 va σ.notes.length ca') (hca : ∀ k', k' < σ.notes.length → Value.int .i64 (nAt (σ.notes.set k x) k').closed = ca' k' 0)
    (h3 : RowN w' 74 2 r x.reps.length (rcell x.reps)) (h4 : MapT w' m A)
    (hr : ∀ b, r.ownBlock = some b → (rv k).ownBlock = some b ∨ (w.heap.size ≤ b ∧ b < w'.heap.size))
    (hs : w.heap.size ≤ w'.heap.size) (ho : w'.os = w.os ∧ w'.tape = w.tape ∧ w'.output = w.output)
    (hb : ∀ b, b < w.heap.size → b ≠ p → b ≠ m → vn.ownBlock ≠ some b → vb.ownBlock ≠ some b → va.ownBlock ≠ some b → w'.heap[b]? = w.heap[b]?) : RGo W p ⟨σ.notes.set k x, A, cnt⟩ F w' := by
  have hsz := hW.size
  obtain ⟨hpm, hn1, hn2, hn3, hn4⟩ := h.nes
  refine ⟨fun b => F b ∨ (r.ownBlock = some b ∧ w.heap.size ≤ b), vn, vb, va, m, fun i => if i = k then r else rv i, ⟨h1, ?_, ?_, ?_, ?_, h4, .inl h.fp, .inl h.fm, fun b e => .inl (h.fv b e), fun b e => .inl (h.fb b e), fun b e => .inl (h.fa b e), ?_, ?_⟩, ?_, ?_⟩
  · rw [List.length_set]
    exact h2.congr hc
  · rw [List.length_set]
    refine h2b.congr fun k' j hk' hj => ?_
    obtain rfl : j = 0 := by omega
    exact hcb k' hk'
  · rw [List.length_set]
    refine h2a.congr fun k' j hk' hj => ?_
    obtain rfl : j = 0 := by omega
    exact hca k' hk'
  · intro i hi
    rw [List.length_set] at hi
    rw [nAt_set hk]
    by_cases hik : i = k
    · simp only [if_pos hik]; exact h3
    · simp only [if_neg hik]
      refine (h.reps i hi).lift fun b e hlt => ?_
      obtain ⟨a1, a2, a3, a4, a5⟩ := hn4 i hi b e
      exact hb b hlt a1 a2 a3 a4 a5
  · intro i hi b e
    rw [List.length_set] at hi
    by_cases hik : i = k
    · simp only [if_pos hik] at e
      rcases hr b e with h5 | ⟨h5, _⟩
      · exact .inl (h.fr k hk b h5)
      · exact .inr ⟨e, h5⟩
    · simp only [if_neg hik] at e
      exact .inl (h.fr i hi b e)
  · rintro b (e | ⟨e, _⟩)
    · exact Nat.lt_of_lt_of_le (h.flt b e) hs
    · rcases hr b e with h5 | ⟨_, h5⟩
      · exact Nat.lt_of_lt_of_le (h.flt b (h.fr k hk b h5)) hs
      · exact h5
  · exact ⟨ho.1.trans hW.os, ho.2.1.trans hW.tape, ho.2.2.trans hW.output, by omega, fun b hlt hnF => by
      rw [hb b (by omega) (fun e => hnF (e ▸ h.fp)) (fun e => hnF (e ▸ h.fm)) (fun e => hnF (h.fv b e)) (fun e => hnF (h.fb b e)) (fun e => hnF (h.fa b e))]
      exact hW.block b hlt⟩
  · rintro b (e | ⟨_, e⟩)
    · exact .inl e
    · exact .inr (by omega)
theorem mcell_set {L : List Nt} {rv : Nat → Value} {k : Nat} {x : Nt} {r : Value} (hk : k < L.length) (k' j : Nat) : mcell (L.set k x) (fun i => if i = k then r else rv i) k' j =
    if k' = k then (match j with | 0 => .int .i64 ((k : Int) + 1) | 1 => .string x.shot | 2 => .int .i64 x.frame | 3 => .string x.author | 4 => .string x.text | 5 => .bool x.opn | 6 => r | 7 => .string x.closer | _ => .int .i64 x.closed) else mcell L rv k' j := ncell_set hk k' j

set_option maxRecDepth 100000 in
set_option maxHeartbeats 8000000 in
theorem ref_Reply_err (p : Nat) (σ : Rv) (F : Nat → Prop) (vn vb va : Value) (m : Nat) (rv : Nat → Value) (n : Int) (author text : ByteArray) (hts : text.size ≤ 9223372036854775807) (W : World) (h : RO W p σ F vn vb va m rv) (wf : Wf σ) (he : replyE σ n author text ≠ 0) :
    Calls Tryz.prog 20 #[.pointer (some ⟨p, 0, none⟩), .int .i64 n, .string author, .string text] W fun e w' => e = .returned (.int .i64 (replyE σ n author text)) ∧ Below W.heap.size W w' := by
  unfold replyE at he ⊢
  have hlen := wf.len
  by_cases h1 : n < 1 ∨ (σ.notes.length : Int) < n
  · have e1 : ntE σ n author = 11 := by unfold ntE; rw [if_pos h1]
    rw [e1, if_pos (by decide)]
    have K := Lib.hid (h.at_none author h1)
    clear he h wf e1 h1
    go_enter Tryz.func20, Tryz.ntmps20
    go_wp2_with fail
    refine (K.out W (Below.refl _ _)).mono ?_
    rintro e w1 ⟨rfl, B⟩
    go_wp2_with fail
    go_ret
    exact ⟨rfl, B⟩
  have h11 : 1 ≤ n := by omega
  have h12 : n ≤ σ.notes.length := by omega
  obtain ⟨g, cap, rfl, hfind⟩ := h.at_at hlen author h11 h12
  by_cases h2 : nameB author = false
  · have e1 : ntE σ n author = 6 := by unfold ntE; rw [if_neg h1, if_pos h2]
    rw [e1, if_pos (by decide)]
    rw [if_pos h2] at hfind
    have K := Lib.hid hfind
    clear he h wf e1 h1 h11 h12 hfind
    go_enter Tryz.func20, Tryz.ntmps20
    go_wp2_with fail
    refine (K.out W (Below.refl _ _)).mono ?_
    rintro e w1 ⟨rfl, B⟩
    go_wp2_with fail
    go_ret
    exact ⟨rfl, B⟩
  replace h2 : nameB author = true := by simpa using h2
  rw [if_neg (by rw [h2]; simp)] at hfind
  have K := Lib.hid hfind
  clear hfind
  have e1 : ntE σ n author = 0 := by unfold ntE; rw [if_neg h1, if_neg (by rw [h2]; simp)]
  rw [e1, if_neg (by decide)] at he ⊢
  clear e1
  by_cases h4 : text.size = 0
  · rw [if_pos (.inl h4)]
    have e4 : text.toList.isEmpty = true := by rw [text_empty]; simpa using h4
    clear he h wf h1 h11 h12 h4
    go_enter Tryz.func20, Tryz.ntmps20
    go_wp2_with fail
    refine (K.out W (Below.refl _ _)).mono ?_
    rintro e w1 ⟨rfl, B⟩
    go_wp2_with fail
    go_ret
    exact ⟨rfl, B⟩
  have e4 : text.toList.isEmpty = false := by rw [text_empty]; simpa using h4
  by_cases h5 : textB text = false
  · rw [if_pos (.inr h5)]
    clear he h wf h1 h11 h12 h4
    go_enter Tryz.func20, Tryz.ntmps20
    go_wp2_with fail
    refine (K.out W (Below.refl _ _)).mono ?_
    rintro e w1 ⟨rfl, B⟩
    go_wp2_with fail
    refine (ref_IsText _ hts _).mono ?_
    rintro e w3 ⟨rfl, hb2⟩
    replace B := bcall B hb2
    clear hb2
    go_wp2_with fail
    go_ret
    exact ⟨rfl, B⟩
  replace h5 : textB text = true := by simpa using h5
  rw [if_neg (by rw [h5]; simpa using h4)] at he ⊢
  have hk : ntI n < σ.notes.length := by unfold ntI; omega
  have hx : ntA σ n = nAt σ.notes (ntI n) := rfl
  rw [hx] at he ⊢
  clear hx
  have H := Lib.hid h
  have Hrow := Lib.hid (h.reps _ hk)
  generalize ntI n = k at *
  by_cases h6 : (nAt σ.notes k).opn = false
  · rw [if_pos h6]
    have Ho := Lib.hid h6
    clear he h wf h1 h11 h12 h4 h6
    go_enter Tryz.func20, Tryz.ntmps20
    go_wp2_with fail
    refine (K.out W (Below.refl _ _)).mono ?_
    rintro e w1 ⟨rfl, B⟩
    go_wp2_with fail
    refine (ref_IsText _ hts _).mono ?_
    rintro e w3 ⟨rfl, hb2⟩
    replace B := bcall B hb2
    clear hb2
    obtain ⟨g2, cap2, eg, hg, hfz, c0, c1, c2, c3, c4, c5, c6⟩ := (H.out.keep B).at hk
    cases eg
    rw [Ho.out] at c5
    clear c0 c1 c2 c3 c4
    clear c6
    go_wp2_with fail
    go_ret
    exact ⟨rfl, B⟩
  replace h6 : (nAt σ.notes k).opn = true := by simpa using h6
  rw [if_neg (by rw [h6]; simp)] at he ⊢
  by_cases h7 : 100 ≤ (nAt σ.notes k).reps.length
  · rw [if_pos h7]
    have Ho := Lib.hid h6
    clear he h wf h1 h11 h12 h4 h6
    go_enter Tryz.func20, Tryz.ntmps20
    go_wp2_with fail
    refine (K.out W (Below.refl _ _)).mono ?_
    rintro e w1 ⟨rfl, B⟩
    go_wp2_with fail
    refine (ref_IsText _ hts _).mono ?_
    rintro e w3 ⟨rfl, hb2⟩
    replace B := bcall B hb2
    clear hb2
    obtain ⟨g2, cap2, eg, hg, hfz, c0, c1, c2, c3, c4, c5, c6⟩ := (H.out.keep B).at hk
    cases eg
    rw [Ho.out] at c5
    clear c0 c1 c2 c3 c4
    obtain ⟨ra, rc, er, _, _⟩ := Hrow.out.form
    rw [er] at c6
    clear er
    generalize (nAt σ.notes k).reps.length = rl at *
    go_wp2_with fail
    all_goals try omega
    go_ret
    exact ⟨rfl, B⟩
  rw [if_neg h7] at he
  exact absurd rfl he

set_option maxRecDepth 100000 in
set_option maxHeartbeats 8000000 in
theorem ref_Reply_ok (p : Nat) (σ : Rv) (F : Nat → Prop) (vn vb va : Value) (m : Nat) (rv : Nat → Value) (n : Int) (author text : ByteArray) (hts : text.size ≤ 9223372036854775807) (W : World) (h : RO W p σ F vn vb va m rv) (wf : Wf σ) (he : replyE σ n author text = 0) :
    Calls Tryz.prog 20 #[.pointer (some ⟨p, 0, none⟩), .int .i64 n, .string author, .string text] W fun e w' => e = .returned (.int .i64 0) ∧ RGo W p (replyS σ n author text) F w' := by
  unfold replyE at he
  have hlen := wf.len
  split at he; · exact absurd he ‹_›
  rename_i h0
  obtain ⟨h11, h12, hk, h2, _, _⟩ := wf.at (by simpa using h0)
  split at he; · cases he
  split at he; · cases he
  split at he; · cases he
  rename_i h4 h6 h7
  have h5 : textB text = true := by simpa using fun e => h4 (.inr e)
  have e4 : text.toList.isEmpty = false := by rw [text_empty]; simpa using fun e => h4 (.inl e)
  obtain ⟨g, cap, rfl, hfind⟩ := h.at_at hlen author h11 h12
  rw [if_neg (by rw [h2]; simp)] at hfind
  have K := Lib.hid hfind
  have Ho : Hid ((nAt σ.notes (ntI n)).opn = true) := Lib.hid (by have h6 : ¬ (nAt σ.notes (ntI n)).opn = false := h6; simpa using h6)
  have H7 : Hid ((nAt σ.notes (ntI n)).reps.length < 100) := Lib.hid (by have : ¬ 100 ≤ (nAt σ.notes (ntI n)).reps.length := h7; omega)
  have H := Lib.hid h
  show Calls _ _ _ W fun e w' => e = .returned (.int .i64 0) ∧ RGo W p ⟨σ.notes.set (ntI n) { nAt σ.notes (ntI n) with reps := (nAt σ.notes (ntI n)).reps ++ [⟨author, text⟩] }, σ.appr, σ.count⟩ F w'
  obtain ⟨k, hkn⟩ : ∃ k, k = ntI n := ⟨_, rfl⟩
  rw [← hkn] at hk Ho H7 K ⊢
  clear he h wf h11 h12 h4 h6 h7 hfind h0 hkn
  go_enter Tryz.func20, Tryz.ntmps20
  go_wp2_with fail
  refine (K.out W (Below.refl _ _)).mono ?_
  rintro e w1 ⟨rfl, B⟩
  go_wp2_with fail
  refine (ref_IsText _ hts _).mono ?_
  rintro e w3 ⟨rfl, hb2⟩
  replace B := bcall B hb2
  clear hb2
  have hx := H.out.keep B
  obtain ⟨g2, cap2, eg, hg, hfz, c0, c1, c2, c3, c4, c5, c6⟩ := hx.at hk
  cases eg
  have hrep := hx.reps k hk
  rw [Ho.out] at c5
  obtain ⟨ra, rc, er, _, _⟩ := hrep.form
  rw [er] at c6 hrep
  have Hx := Lib.hid hx
  have H7b := H7.out
  have KC := Lib.hid (clone_reps _ _ w3 (by omega) hrep)
  clear c0 c1 c2 c3 c4 hx H K hrep
  obtain ⟨rl, hrl⟩ : ∃ rl, rl = (nAt σ.notes k).reps.length := ⟨_, rfl⟩
  rw [← hrl] at c6 KC H7b
  have Hrl := Lib.hid hrl
  clear hrl er
  go_wp2_with fail
  all_goals try omega
  refine KC.out.mono ?_
  rintro e w4 ⟨v', rfl, hrow4, hb4, hnew4⟩
  obtain ⟨oa, oc, eo, _⟩ := hrow4.form
  subst eo
  have d6 : w4.cell? ⟨g, k * 7 + 6, none⟩ = some (.slice ra rl rc) := (hb4.cell (p := ⟨g, k * 7 + 6, none⟩) hg).trans c6
  have HN := Lib.hid (And.intro hb4 hnew4)
  clear c5 c6 hfz hb4 hnew4 KC
  have hg4 : g < w4.heap.size := Nat.lt_of_lt_of_le hg HN.out.1.size
  have hgne : (Value.slice oa rl oc).ownBlock ≠ some g := fun e => by have := HN.out.2 _ e; omega
  go_wp2_with (at_builtin; refine rowN_append (news := [.string author, .string text]) infoReply Tryz.underlying63 rfl (by decide) rfl (.tmp 48) (.tmp 52) rfl rfl w4.heap.size rfl (hrow4.keep (bnew (Below.refl _ _))) (Bx.new _ _ _) rfl (rep_one _ _) (by omega) (by omega) ?_)
  intro g' cap' w5 hrow5 hgrow hat hlt
  have hcell : ∀ o, w5.cell? ⟨g, o, none⟩ = w4.cell? ⟨g, o, none⟩ ∧ w5.frozen? ⟨g, o, none⟩ = w4.frozen? ⟨g, o, none⟩ := fun o => by
    have e1 : w5.heap[g]? = w4.heap[g]? := by
      rw [hgrow.block g (by simp; omega) (fun e => hgne e.symm)]
      exact Below.heap_alloc _ _ _ hg4
    exact ⟨World.cell?_of_block (a := ⟨g, o, none⟩) e1, World.frozen?_of_block (a := ⟨g, o, none⟩) e1⟩
  have f6 : w5.cell? ⟨g, k * 7 + 6, none⟩ = some (.slice ra rl rc) := (hcell _).1.trans d6
  have hz3 : w3.frozen? ⟨g, k * 7 + 6, none⟩ = false := by
    obtain ⟨_, _, eg, _, hz, _⟩ := Hx.out.at hk
    cases eg
    exact hz _
  have z6 : w5.frozen? ⟨g, k * 7 + 6, none⟩ = false := (hcell _).2.trans ((HN.out.1.frozen (p := ⟨g, k * 7 + 6, none⟩) hg).trans hz3)
  have Hg := Lib.hid (And.intro hgrow (And.intro hat (And.intro hlt hrow5)))
  clear hcell hgrow hat hlt hrow5 d6 hz3 hrow4
  go_wp2_with fail
  go_ret
  refine ⟨rfl, ?_⟩
  obtain ⟨hgrow, hat, hlt, hrow5⟩ := Hg.out
  obtain ⟨hb4, hnew4⟩ := HN.out
  have hX := Hx.out
  have on : Only g w5 (w5.setCell ⟨g, k * 7 + 6, none⟩ (.slice (some ⟨g', 0, none⟩) (rl + 1) cap')) := (Only.refl g w5).set _ _
  have hset0 := fun h => RowN.set (w := w5) (T := 65) (s := 7) (n := σ.notes.length) (g := g) (cap := cap) (c := mcell σ.notes rv) h k 6 hk (by omega) (.slice (some ⟨g', 0, none⟩) (rl + 1) cap')
  generalize hw6 : w5.setCell ⟨g, k * 7 + 6, none⟩ (.slice (some ⟨g', 0, none⟩) (rl + 1) cap') = w6 at *
  have hrl := Hrl.out
  subst hrl
  have hs34 := hb4.size
  have hs45 : w4.heap.size ≤ w5.heap.size := by have := hgrow.size; simp at this; omega
  have hkeep5 : ∀ b, b < w3.heap.size → w5.heap[b]? = w3.heap[b]? := fun b h1 => by
    rw [hgrow.block b (by simp; omega) (fun e => by have := hnew4 b e.symm; omega), ← hb4.block b h1]
    exact Below.heap_alloc _ _ _ (by omega)
  have hkeep : ∀ b, b < w3.heap.size → b ≠ g → w6.heap[b]? = w3.heap[b]? := fun b h1 h2 => (on.block b h2).trans (hkeep5 b h1)
  obtain ⟨hpm, hn1, hn2, hn3, hn4⟩ := hX.nes
  have hgp := hn1 g rfl
  refine RO.changed (w := w3) (r := .slice (some ⟨g', 0, none⟩) ((nAt σ.notes k).reps.length + 1) cap') hX B hk ?_ _ (hset0 (hX.row.lift fun b _ hlt => hkeep5 b hlt)) ?_ _ (hX.by_.lift fun b e hlt => hkeep b hlt (fun e2 => (hn2 b e).2.2.1 (by rw [e2]; rfl))) ?_ _ (hX.at_.lift fun b e hlt => hkeep b hlt (fun e2 => (hn3 b e).2.2.1 (by rw [e2]; rfl))) ?_ ?_ ?_ ?_ ?_ ?_ ?_
  · exact (hkeep p hX.bx.lt (Ne.symm hgp.1)).trans hX.bx
  · intro k' j h1 h2
    rw [mcell_set hk]
    by_cases hkk : k' = k
    · subst hkk
      rcases (by omega : j = 0 ∨ j = 1 ∨ j = 2 ∨ j = 3 ∨ j = 4 ∨ j = 5 ∨ j = 6) with rfl | rfl | rfl | rfl | rfl | rfl | rfl <;> simp [mcell, ncell]
    · rw [if_neg hkk, if_neg (by omega)]
  · intro k' h1
    rw [nAt_set hk]
    by_cases hkk : k' = k
    · simp [hkk]
    · simp [hkk]
  · intro k' h1
    rw [nAt_set hk]
    by_cases hkk : k' = k
    · simp [hkk]
    · simp [hkk]
  · have hq : RowN w6 74 2 (.slice (some ⟨g', 0, none⟩) ((nAt σ.notes k).reps.length + 1) cap') ((nAt σ.notes k).reps.length + 1) _ := on.rowN hrow5 (fun b e => by
      simp only [Value.ownBlock, Option.some.injEq] at e
      subst e
      rcases hat with e | e
      · have := hnew4 _ e; omega
      · omega)
    show RowN w6 _ 2 _ ((nAt σ.notes k).reps ++ [Rp.mk author text]).length _
    rw [List.length_append, List.length_singleton]
    exact hq.congr fun i j h1 h2 => rcell_snoc (y := ⟨author, text⟩) h1 h2
  · exact hX.map.lift (hkeep m hX.map.lt (Ne.symm hgp.2.1))
  · intro b e
    simp only [Value.ownBlock, Option.some.injEq] at e
    subst e
    right
    rw [on.size]
    refine ⟨?_, hlt⟩
    rcases hat with e | e
    · have := hnew4 _ e; omega
    · omega
  · rw [on.size]; omega
  · exact ⟨on.os.trans (hgrow.os.trans hb4.os), on.tape.trans (hgrow.tape.trans hb4.tape), on.output.trans (hgrow.output.trans hb4.output)⟩
  · intro b h1 h2 h3 h4 h5 h6
    exact hkeep b h1 (fun e => h4 (by rw [e]; rfl))
end Go.Proofs.YtilninaminaadaaGreatDoor
