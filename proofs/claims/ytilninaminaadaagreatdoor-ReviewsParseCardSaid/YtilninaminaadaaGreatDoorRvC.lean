/- conform's Review: Reply. -/
import Derived.Test.YtilninaminaadaaGreatDoorRvB
namespace Go.Proofs.YtilninaminaadaaGreatDoor
open Go.RowKit

/-- The note x, of number num, lies from cell o of block g on; its replies' slice is r. -/
def NoteAt (w : World) (g o : Nat) (num : Int) (x : Nt) (r : Value) : Prop :=
  w.cell? ⟨g, o, none⟩ = some (.int .i64 num) ∧ w.cell? ⟨g, o + 1, none⟩ = some (.string x.shot) ∧ w.cell? ⟨g, o + 2, none⟩ = some (.int .i64 x.frame) ∧ w.cell? ⟨g, o + 3, none⟩ = some (.string x.author) ∧
  w.cell? ⟨g, o + 4, none⟩ = some (.string x.text) ∧ w.cell? ⟨g, o + 5, none⟩ = some (.bool x.opn) ∧ w.cell? ⟨g, o + 6, none⟩ = some r ∧ w.cell? ⟨g, o + 7, none⟩ = some (.string x.closer) ∧ w.cell? ⟨g, o + 8, none⟩ = some (.int .i64 x.closed)
theorem VO.at {w : World} {p : Nat} {σ : Rv} {F : Nat → Prop} {vn : Value} {m : Nat} {rv : Nat → Value} (h : VO w p σ F vn m rv) {k : Nat} (hk : k < σ.notes.length) :
    ∃ g cap, vn = .slice (some ⟨g, 0, none⟩) σ.notes.length cap ∧ g < w.heap.size ∧ (∀ o, w.frozen? ⟨g, o, none⟩ = false) ∧ NoteAt w g (k * 9) ((k : Int) + 1) (nAt σ.notes k) (rv k) := by
  obtain ⟨g, cap, e1, e2, _, _, e3, e4⟩ := h.row.open (by omega)
  exact ⟨g, cap, e1, e2, e4, e3 k 0 hk (by omega), e3 k 1 hk (by omega), e3 k 2 hk (by omega), e3 k 3 hk (by omega), e3 k 4 hk (by omega), e3 k 5 hk (by omega), e3 k 6 hk (by omega), e3 k 7 hk (by omega), e3 k 8 hk (by omega)⟩
theorem VO.find_at {w : World} {p : Nat} {σ : Rv} {F : Nat → Prop} {vn : Value} {m : Nat} {rv : Nat → Value} (h : VO w p σ F vn m rv) (hl : σ.notes.length ≤ 2000) {n : Int} (h1 : 1 ≤ n) (h2 : n ≤ σ.notes.length) :
    ∃ g cap, vn = .slice (some ⟨g, 0, none⟩) σ.notes.length cap ∧ ∀ w', Below w.heap.size w w' → Calls Tryz.prog 50 #[.pointer (some ⟨p, 0, none⟩), .int .i64 n] w' fun e w'' => e = .returned (.tuple #[.pointer (some ⟨g, ntI n * 9, none⟩), .bool true]) ∧ Below w'.heap.size w' w'' := by
  obtain ⟨g, cap, e1, _⟩ := h.at (k := ntI n) (by unfold ntI; omega)
  subst e1
  exact ⟨g, cap, rfl, fun w' hb => conform_find p g cap _ n _ _ w' (h.keep hb).bx h1 h2 hl⟩
theorem VO.find_none {w : World} {p : Nat} {σ : Rv} {F : Nat → Prop} {vn : Value} {m : Nat} {rv : Nat → Value} (h : VO w p σ F vn m rv) {n : Int} (hn : n < 1 ∨ (σ.notes.length : Int) < n) (w' : World) (hb : Below w.heap.size w w') :
    Calls Tryz.prog 50 #[.pointer (some ⟨p, 0, none⟩), .int .i64 n] w' fun e w'' => e = .returned (.tuple #[.pointer none, .bool false]) ∧ Below w'.heap.size w' w'' := by
  obtain ⟨a, c, rfl, _⟩ := h.row.form
  exact conform_find_none p c _ a n _ _ w' (h.keep hb).bx hn

theorem infoReply : (Tryz.prog.info? 74).map (fun i => (i.zero, i.size, i.bytes)) = some (some (.agg #[.string ⟨#[]⟩, .string ⟨#[]⟩]), 2, 32) := by kernel_rfl

set_option maxRecDepth 100000 in
set_option maxHeartbeats 8000000 in
theorem conform_Reply_err (p : Nat) (σ : Rv) (F : Nat → Prop) (vn : Value) (m : Nat) (rv : Nat → Value) (n : Int) (author text : ByteArray) (W : World) (h : VO W p σ F vn m rv) (wf : Wf σ) (he : replyE σ n author text ≠ 0) :
    Calls Tryz.prog 19 #[.pointer (some ⟨p, 0, none⟩), .int .i64 n, .string author, .string text] W fun e w' => e = .returned (.int .i64 (replyE σ n author text)) ∧ Below W.heap.size W w' := by
  unfold replyE at he ⊢
  have hlen := wf.len
  by_cases h1 : n < 1 ∨ (σ.notes.length : Int) < n
  · have e1 : ntE σ n author = 11 := by unfold ntE; rw [if_pos h1]
    rw [e1, if_pos (by decide)]
    have K := Lib.hid (h.find_none h1)
    clear he h wf e1 h1
    go_enter Tryz.func19, Tryz.ntmps19
    go_wp2_with fail
    refine (K.out _ (Below.refl _ _)).mono ?_
    rintro e w1 ⟨rfl, hb⟩
    go_wp2_with fail
    go_ret
    exact ⟨rfl, hb⟩
  have h11 : 1 ≤ n := by omega
  have h12 : n ≤ σ.notes.length := by omega
  obtain ⟨g, cap, rfl, hfind⟩ := h.find_at hlen h11 h12
  have K := Lib.hid (hfind W (Below.refl _ _))
  clear hfind
  by_cases h2 : nameB author = false
  · have e1 : ntE σ n author = 6 := by unfold ntE; rw [if_neg h1, if_pos h2]
    rw [e1, if_pos (by decide)]
    clear he h wf e1 h1 h11 h12
    go_enter Tryz.func19, Tryz.ntmps19
    go_wp2_with fail
    refine (K.out).mono ?_
    rintro e w1 ⟨rfl, hb⟩
    go_wp2_with fail
    refine (conform_isName _ _).mono ?_
    rintro e w2 ⟨rfl, hb2⟩
    replace hb := bcall hb hb2
    clear hb2
    go_wp2_with fail
    go_ret
    exact ⟨rfl, hb⟩
  replace h2 : nameB author = true := by simpa using h2
  have e1 : ntE σ n author = 0 := by unfold ntE; rw [if_neg h1, if_neg (by rw [h2]; simp)]
  rw [e1, if_neg (by decide)] at he ⊢
  clear e1
  by_cases h4 : text.size = 0
  · rw [if_pos (.inl h4)]
    have e4 : text.toList.isEmpty = true := by rw [text_empty]; simpa using h4
    clear he h wf h1 h11 h12 h4
    go_enter Tryz.func19, Tryz.ntmps19
    go_wp2_with fail
    refine (K.out).mono ?_
    rintro e w1 ⟨rfl, hb⟩
    go_wp2_with fail
    refine (conform_isName _ _).mono ?_
    rintro e w2 ⟨rfl, hb2⟩
    replace hb := bcall hb hb2
    clear hb2
    go_wp2_with fail
    go_ret
    exact ⟨rfl, hb⟩
  have e4 : text.toList.isEmpty = false := by rw [text_empty]; simpa using h4
  by_cases h5 : textB text = false
  · rw [if_pos (.inr h5)]
    clear he h wf h1 h11 h12 h4
    go_enter Tryz.func19, Tryz.ntmps19
    go_wp2_with fail
    refine (K.out).mono ?_
    rintro e w1 ⟨rfl, hb⟩
    go_wp2_with fail
    refine (conform_isName _ _).mono ?_
    rintro e w2 ⟨rfl, hb2⟩
    replace hb := bcall hb hb2
    clear hb2
    go_wp2_with fail
    refine (conform_isText _ _).mono ?_
    rintro e w3 ⟨rfl, hb2⟩
    replace hb := bcall hb hb2
    clear hb2
    go_wp2_with fail
    go_ret
    exact ⟨rfl, hb⟩
  replace h5 : textB text = true := by simpa using h5
  rw [if_neg (by rw [h5]; simpa using h4)] at he ⊢
  have hk : ntI n < σ.notes.length := by unfold ntI; omega
  have hx : ntA σ n = nAt σ.notes (ntI n) := rfl
  rw [hx] at he ⊢
  clear hx
  have H := Lib.hid h
  have Hrow := Lib.hid (h.reps _ hk)
  by_cases h6 : (nAt σ.notes (ntI n)).opn = false
  · rw [if_pos h6]
    have Ho := Lib.hid h6
    clear he h wf h1 h11 h12 h4 h6
    go_enter Tryz.func19, Tryz.ntmps19
    go_wp2_with fail
    refine (K.out).mono ?_
    rintro e w1 ⟨rfl, hb⟩
    go_wp2_with fail
    refine (conform_isName _ _).mono ?_
    rintro e w2 ⟨rfl, hb2⟩
    replace hb := bcall hb hb2
    clear hb2
    go_wp2_with fail
    refine (conform_isText _ _).mono ?_
    rintro e w3 ⟨rfl, hb2⟩
    replace hb := bcall hb hb2
    clear hb2
    obtain ⟨g2, cap2, eg, hg, hfz, c0, c1, c2, c3, c4, c5, c6, c7, c8⟩ := (H.out.keep hb).at hk
    cases eg
    rw [Ho.out] at c5
    clear c0 c1 c2 c3 c4 c6 c7 c8
    go_wp2_with fail
    go_ret
    exact ⟨rfl, hb⟩
  replace h6 : (nAt σ.notes (ntI n)).opn = true := by simpa using h6
  rw [if_neg (by rw [h6]; simp)] at he ⊢
  by_cases h7 : 100 ≤ (nAt σ.notes (ntI n)).reps.length
  · rw [if_pos h7]
    have Ho := Lib.hid h6
    clear he h wf h1 h11 h12 h4 h6
    go_enter Tryz.func19, Tryz.ntmps19
    go_wp2_with fail
    refine (K.out).mono ?_
    rintro e w1 ⟨rfl, hb⟩
    go_wp2_with fail
    refine (conform_isName _ _).mono ?_
    rintro e w2 ⟨rfl, hb2⟩
    replace hb := bcall hb hb2
    clear hb2
    go_wp2_with fail
    refine (conform_isText _ _).mono ?_
    rintro e w3 ⟨rfl, hb2⟩
    replace hb := bcall hb hb2
    clear hb2
    obtain ⟨g2, cap2, eg, hg, hfz, c0, c1, c2, c3, c4, c5, c6, c7, c8⟩ := (H.out.keep hb).at hk
    cases eg
    rw [Ho.out] at c5
    obtain ⟨ra, rc, er, _, _⟩ := Hrow.out.form
    rw [er] at c6
    clear c0 c1 c2 c3 c4 c7 c8 er
    generalize (nAt σ.notes (ntI n)).reps.length = rl at *
    go_wp2_with fail
    all_goals try omega
    go_ret
    exact ⟨rfl, hb⟩
  rw [if_neg h7] at he
  exact absurd rfl he
/-- As VGo, and the notes' slice is the one that it was. -/
def VGoV (w : World) (p : Nat) (σ : Rv) (F : Nat → Prop) (vn : Value) (w' : World) : Prop := ∃ F' m rv, VO w' p σ F' vn m rv ∧ Fr F w w' ∧ ∀ b, F' b → F b ∨ w.heap.size ≤ b
theorem VGoV.go {w : World} {p : Nat} {σ : Rv} {F : Nat → Prop} {vn : Value} {w' : World} (h : VGoV w p σ F vn w') : VGo w p σ F w' := by
  obtain ⟨F', m, rv, h⟩ := h
  exact ⟨F', vn, m, rv, h⟩
theorem VO.changedV {W w w' : World} {p : Nat} {σ : Rv} {F : Nat → Prop} {vn : Value} {m : Nat} {rv : Nat → Value} {k : Nat} {x : Nt} {r : Value} {A : List (ByteArray × ByteArray)} {cnt : Int} (h : VO w p σ F vn m rv) (hW : Below W.heap.size W w) (hk : k < σ.notes.length)
    (h1 : Bx w' p 47 #[vn, .map (some m), .int .i64 cnt])
    (c' : Nat → Nat → Value) (h2 : RowN w' 67 9 vn σ.notes.length c') (hc : ∀ k' j, k' < σ.notes.length → j < 9 → ncell (σ.notes.set k x) (fun i => if i = k then r else rv i) k' j = c' k' j)
    (h3 : RowN w' 74 2 r x.reps.length (rcell x.reps)) (h4 : MapT w' m A)
    (hr : ∀ b, r.ownBlock = some b → (rv k).ownBlock = some b ∨ (w.heap.size ≤ b ∧ b < w'.heap.size))
    (hs : w.heap.size ≤ w'.heap.size) (ho : w'.os = w.os ∧ w'.tape = w.tape ∧ w'.output = w.output)
    (hb : ∀ b, b < w.heap.size → b ≠ p → b ≠ m → vn.ownBlock ≠ some b → (rv k).ownBlock ≠ some b → w'.heap[b]? = w.heap[b]?) : VGoV W p ⟨σ.notes.set k x, A, cnt⟩ F vn w' := by
  have hsz := hW.size
  refine ⟨fun b => F b ∨ (r.ownBlock = some b ∧ w.heap.size ≤ b), m, fun i => if i = k then r else rv i, ⟨h1, ?_, ?_, ?_, h4, .inl h.fp, .inl h.fm, fun b e => .inl (h.fv b e), ?_, ?_⟩, ?_, ?_⟩
  · rw [List.length_set]
    exact h2.congr hc
  · intro i hi
    rw [List.length_set] at hi
    rw [nAt_set hk]
    by_cases hik : i = k
    · simp only [if_pos hik]; exact h3
    · simp only [if_neg hik]
      refine (h.reps i hi).lift fun b e hlt => ?_
      obtain ⟨a1, a2, a3⟩ := h.ne_r i hi b e
      exact hb b hlt a1 a2 a3 (h.apart i k hi hk hik b e)
  · intro i j hi hj hne b e1 e2
    rw [List.length_set] at hi hj
    by_cases hik : i = k
    · by_cases hjk : j = k
      · omega
      · simp only [if_pos hik] at e1
        simp only [if_neg hjk] at e2
        rcases hr b e1 with h5 | ⟨h5, _⟩
        · exact h.apart k j hk hj (by omega) b h5 e2
        · have := (h.reps j hj).base b e2; omega
    · by_cases hjk : j = k
      · simp only [if_neg hik] at e1
        simp only [if_pos hjk] at e2
        rcases hr b e2 with h5 | ⟨h5, _⟩
        · exact h.apart i k hi hk (by omega) b e1 h5
        · have := (h.reps i hi).base b e1; omega
      · simp only [if_neg hik] at e1
        simp only [if_neg hjk] at e2
        exact h.apart i j hi hj hne b e1 e2
  · intro i hi b e
    rw [List.length_set] at hi
    by_cases hik : i = k
    · simp only [if_pos hik] at e
      rcases hr b e with h5 | ⟨h5, _⟩
      · exact .inl (h.fr k hk b h5)
      · exact .inr ⟨e, h5⟩
    · simp only [if_neg hik] at e
      exact .inl (h.fr i hi b e)
  · rintro b (e | ⟨e, _⟩)
    · exact Nat.lt_of_lt_of_le (h.flt b e) hs
    · rcases hr b e with h5 | ⟨_, h5⟩
      · exact Nat.lt_of_lt_of_le (h.flt b (h.fr k hk b h5)) hs
      · exact h5
  · exact ⟨ho.1.trans hW.os, ho.2.1.trans hW.tape, ho.2.2.trans hW.output, by omega, fun b hlt hnF => by
      rw [hb b (by omega) (fun e => hnF (e ▸ h.fp)) (fun e => hnF (e ▸ h.fm)) (fun e => hnF (h.fv b e)) (fun e => hnF (h.fr k hk b e))]
      exact hW.block b hlt⟩
  · rintro b (e | ⟨_, e⟩)
    · exact .inl e
    · exact .inr (by omega)
theorem VO.changed {W w w' : World} {p : Nat} {σ : Rv} {F : Nat → Prop} {vn : Value} {m : Nat} {rv : Nat → Value} {k : Nat} {x : Nt} {r : Value} {A : List (ByteArray × ByteArray)} {cnt : Int} (h : VO w p σ F vn m rv) (hW : Below W.heap.size W w) (hk : k < σ.notes.length)
    (h1 : Bx w' p 47 #[vn, .map (some m), .int .i64 cnt])
    (c' : Nat → Nat → Value) (h2 : RowN w' 67 9 vn σ.notes.length c') (hc : ∀ k' j, k' < σ.notes.length → j < 9 → ncell (σ.notes.set k x) (fun i => if i = k then r else rv i) k' j = c' k' j)
    (h3 : RowN w' 74 2 r x.reps.length (rcell x.reps)) (h4 : MapT w' m A)
    (hr : ∀ b, r.ownBlock = some b → (rv k).ownBlock = some b ∨ (w.heap.size ≤ b ∧ b < w'.heap.size))
    (hs : w.heap.size ≤ w'.heap.size) (ho : w'.os = w.os ∧ w'.tape = w.tape ∧ w'.output = w.output)
    (hb : ∀ b, b < w.heap.size → b ≠ p → b ≠ m → vn.ownBlock ≠ some b → (rv k).ownBlock ≠ some b → w'.heap[b]? = w.heap[b]?) : VGo W p ⟨σ.notes.set k x, A, cnt⟩ F w' := (h.changedV hW hk h1 c' h2 hc h3 h4 hr hs ho hb).go
theorem ncell_set {L : List Nt} {rv : Nat → Value} {k : Nat} {x : Nt} {r : Value} (hk : k < L.length) (k' j : Nat) : ncell (L.set k x) (fun i => if i = k then r else rv i) k' j =
    if k' = k then (match j with | 0 => .int .i64 ((k : Int) + 1) | 1 => .string x.shot | 2 => .int .i64 x.frame | 3 => .string x.author | 4 => .string x.text | 5 => .bool x.opn | 6 => r | 7 => .string x.closer | _ => .int .i64 x.closed) else ncell L rv k' j := by
  unfold ncell
  rw [nAt_set hk]
  by_cases h : k' = k
  · subst h
    simp only [if_true]
    rcases j with _ | _ | _ | _ | _ | _ | _ | _ | j <;> rfl
  · simp only [if_neg h]
theorem rep_one (a t : ByteArray) : ∀ u ∈ [Value.string a, .string t], u.oneCell' = true := by
  intro u hu
  simp only [List.mem_cons, List.not_mem_nil, or_false] at hu
  rcases hu with rfl | rfl <;> rfl
theorem rcell_snoc {L : List Rp} {y : Rp} {k j : Nat} (hk : k < L.length + 1) (hj : j < 2) : rcell (L ++ [y]) k j = if k < L.length then rcell L k j else [Value.string y.author, .string y.text].getD j undef := by
  unfold rcell rAt
  rw [List.getD_eq_getElem?_getD, List.getD_eq_getElem?_getD]
  by_cases h : k < L.length
  · rw [List.getElem?_append_left h, if_pos h]
  · obtain rfl : k = L.length := by omega
    rw [if_neg h, List.getElem?_append_right (by omega)]
    rcases (by omega : j = 0 ∨ j = 1) with rfl | rfl <;> simp

set_option maxRecDepth 100000 in
set_option maxHeartbeats 8000000 in
theorem conform_Reply_okV (p : Nat) (σ : Rv) (F : Nat → Prop) (vn : Value) (m : Nat) (rv : Nat → Value) (n : Int) (author text : ByteArray) (W : World) (h : VO W p σ F vn m rv) (wf : Wf σ) (he : replyE σ n author text = 0) :
    Calls Tryz.prog 19 #[.pointer (some ⟨p, 0, none⟩), .int .i64 n, .string author, .string text] W fun e w' => e = .returned (.int .i64 0) ∧ VGoV W p (replyS σ n author text) F vn w' := by
  unfold replyE at he
  have hlen := wf.len
  split at he; · exact absurd he ‹_›
  rename_i h0
  obtain ⟨h11, h12, hk, h2, _, _⟩ := wf.at (by simpa using h0)
  split at he; · cases he
  split at he; · cases he
  split at he; · cases he
  rename_i h4 h6 h7
  have h5 : textB text = true := by simpa using fun e => h4 (.inr e)
  have e4 : text.toList.isEmpty = false := by rw [text_empty]; simpa using fun e => h4 (.inl e)
  obtain ⟨g, cap, rfl, hfind⟩ := h.find_at hlen h11 h12
  have K := Lib.hid (hfind W (Below.refl _ _))
  have Ho : Hid ((nAt σ.notes (ntI n)).opn = true) := Lib.hid (by have h6 : ¬ (nAt σ.notes (ntI n)).opn = false := h6; simpa using h6)
  have H7 : Hid ((nAt σ.notes (ntI n)).reps.length < 100) := Lib.hid (by have : ¬ 100 ≤ (nAt σ.notes (ntI n)).reps.length := h7; omega)
  have H := Lib.hid h
  show Calls _ _ _ W fun e w' => e = .returned (.int .i64 0) ∧ VGoV W p ⟨σ.notes.set (ntI n) { nAt σ.notes (ntI n) with reps := (nAt σ.notes (ntI n)).reps ++ [⟨author, text⟩] }, σ.appr, σ.count⟩ F _ w'
  obtain ⟨k, hkn⟩ : ∃ k, k = ntI n := ⟨_, rfl⟩
  rw [← hkn] at hk Ho H7 K ⊢
  clear he h wf h11 h12 h4 h6 h7 hfind h0 hkn
  go_enter Tryz.func19, Tryz.ntmps19
  go_wp2_with fail
  refine (K.out).mono ?_
  rintro e w1 ⟨rfl, hb⟩
  go_wp2_with fail
  refine (conform_isName _ _).mono ?_
  rintro e w2 ⟨rfl, hb2⟩
  replace hb := bcall hb hb2
  clear hb2
  go_wp2_with fail
  refine (conform_isText _ _).mono ?_
  rintro e w3 ⟨rfl, hb2⟩
  replace hb := bcall hb hb2
  clear hb2 K
  have hx := H.out.keep hb
  obtain ⟨g2, cap2, eg, hg, hfz, c0, c1, c2, c3, c4, c5, c6, c7, c8⟩ := hx.at hk
  cases eg
  have hrep := hx.reps k hk
  have hne := hx.ne_r k hk
  rw [Ho.out] at c5
  obtain ⟨ra, rc, er, _, _⟩ := hrep.form
  rw [er] at c6 hrep hne
  have Hx := Lib.hid hx
  have H7b := H7.out
  clear c0 c1 c2 c3 c4 c7 c8 hx H
  obtain ⟨rl, hrl⟩ : ∃ rl, rl = (nAt σ.notes k).reps.length := ⟨_, rfl⟩
  rw [← hrl] at c6 hrep hne H7b
  have Hrl := Lib.hid hrl
  have Er := Lib.hid er
  clear hrl er
  go_upto_region 12 with fail
  all_goals try omega
  go_wp2_with (at_builtin; refine rowN_append (news := [.string author, .string text]) infoReply Tryz.underlying63 rfl (by decide) rfl (.tmp 52) (.tmp 56) rfl rfl w3.heap.size rfl (hrep.keep (bnew (Below.refl _ _))) (Bx.new _ _ _) rfl (rep_one _ _) (by omega) (by omega) ?_)
  intro g' cap' w4 hrow4 hgrow hat hlt
  have hgne : (Value.slice ra rl rc).ownBlock ≠ some g := fun e => (hne g e).2.2 rfl
  have hcell : ∀ o, w4.cell? ⟨g, o, none⟩ = w3.cell? ⟨g, o, none⟩ ∧ w4.frozen? ⟨g, o, none⟩ = w3.frozen? ⟨g, o, none⟩ := fun o => by
    have e1 : w4.heap[g]? = w3.heap[g]? := by
      rw [hgrow.block g (by simp; omega) (fun e => hgne e.symm)]
      exact Below.heap_alloc _ _ _ hg
    exact ⟨World.cell?_of_block (a := ⟨g, o, none⟩) e1, World.frozen?_of_block (a := ⟨g, o, none⟩) e1⟩
  have d6 : w4.cell? ⟨g, k * 9 + 6, none⟩ = some (.slice ra rl rc) := (hcell _).1.trans c6
  have z6 : w4.frozen? ⟨g, k * 9 + 6, none⟩ = false := (hcell _).2.trans (hfz _)
  have Hcell := Lib.hid hcell
  have Hg := Lib.hid (And.intro hgrow hat)
  have Hne := Lib.hid hne
  clear hcell hgrow hat c5 c6 hfz hgne hne
  go_wp2_with fail
  go_ret
  refine ⟨rfl, ?_⟩
  obtain ⟨hgrow, hat⟩ := Hg.out
  have hgs : w3.heap.size ≤ w4.heap.size := by have := hgrow.size; simp at this; omega
  have on : Only g w4 (w4.setCell ⟨g, k * 9 + 6, none⟩ (.slice (some ⟨g', 0, none⟩) (rl + 1) cap')) := (Only.refl g w4).set _ _
  generalize hw5 : w4.setCell ⟨g, k * 9 + 6, none⟩ (.slice (some ⟨g', 0, none⟩) (rl + 1) cap') = w5 at *
  have hX := Hx.out
  have hrl := Hrl.out
  subst hrl
  have hkeep : ∀ b, b < w3.heap.size → b ≠ g → (rv k).ownBlock ≠ some b → w5.heap[b]? = w3.heap[b]? := fun b h1 h2 h3 => by
    rw [on.block b h2, hgrow.block b (by simp; omega) (fun e => h3 (by rw [Er.out]; exact e.symm))]
    exact Below.heap_alloc _ _ _ h1
  have hvp := hX.ne_vp g rfl
  have hgk : ∀ b, (rv k).ownBlock = some b → b ≠ p ∧ b ≠ m ∧ (Value.slice (some ⟨g, 0, none⟩) σ.notes.length cap).ownBlock ≠ some b := hX.ne_r k hk
  have hrown : RowN w4 67 9 (.slice (some ⟨g, 0, none⟩) σ.notes.length cap) σ.notes.length (ncell σ.notes rv) := hX.row.lift fun b e hlt => by
    simp only [Value.ownBlock, Option.some.injEq] at e
    subst e
    rw [hgrow.block g (by simp; omega) (fun e => (hgk g (by rw [Er.out]; exact e.symm)).2.2 rfl)]
    exact Below.heap_alloc _ _ _ hlt
  have hset := hrown.set k 6 hk (by omega) (.slice (some ⟨g', 0, none⟩) ((nAt σ.notes k).reps.length + 1) cap')
  rw [hw5] at hset
  refine VO.changedV (w := w3) (r := .slice (some ⟨g', 0, none⟩) ((nAt σ.notes k).reps.length + 1) cap') hX hb hk ?_ _ hset ?_ ?_ ?_ ?_ ?_ ?_ ?_
  · exact (hkeep p hX.bx.lt (fun e => hvp.1 e.symm) (fun e => (hgk p e).1 rfl)).trans hX.bx
  · intro k' j h1 h2
    rw [ncell_set hk]
    by_cases hkk : k' = k
    · subst hkk
      rcases (by omega : j = 0 ∨ j = 1 ∨ j = 2 ∨ j = 3 ∨ j = 4 ∨ j = 5 ∨ j = 6 ∨ j = 7 ∨ j = 8) with rfl | rfl | rfl | rfl | rfl | rfl | rfl | rfl | rfl <;> simp [ncell]
    · rw [if_neg hkk, if_neg (by omega)]
  · have hq : RowN w5 74 2 (.slice (some ⟨g', 0, none⟩) ((nAt σ.notes k).reps.length + 1) cap') ((nAt σ.notes k).reps.length + 1) _ := on.rowN hrow4 (fun b e => by
      simp only [Value.ownBlock, Option.some.injEq] at e
      subst e
      rintro rfl
      rcases hat with e | e
      · exact (hgk g' (by rw [Er.out]; exact e)).2.2 rfl
      · omega)
    show RowN w5 _ 2 _ ((nAt σ.notes k).reps ++ [Rp.mk author text]).length _
    rw [List.length_append, List.length_singleton]
    exact hq.congr fun i j h1 h2 => rcell_snoc (y := ⟨author, text⟩) h1 h2
  · exact hX.map.lift (hkeep m hX.map.lt (fun e => hvp.2 e.symm) (fun e => (hgk m e).2.1 rfl))
  · intro b e
    simp only [Value.ownBlock, Option.some.injEq] at e
    subst e
    rcases hat with e | e
    · left; rw [Er.out]; exact e
    · right; rw [on.size]; exact ⟨by omega, hlt⟩
  · rw [on.size]; exact hgs
  · exact ⟨on.os.trans hgrow.os, on.tape.trans hgrow.tape, on.output.trans hgrow.output⟩
  · intro b h1 h2 h3 h4 h5
    exact hkeep b h1 (fun e => h4 (by rw [e]; rfl)) h5
theorem conform_Reply_ok (p : Nat) (σ : Rv) (F : Nat → Prop) (vn : Value) (m : Nat) (rv : Nat → Value) (n : Int) (author text : ByteArray) (W : World) (h : VO W p σ F vn m rv) (wf : Wf σ) (he : replyE σ n author text = 0) :
    Calls Tryz.prog 19 #[.pointer (some ⟨p, 0, none⟩), .int .i64 n, .string author, .string text] W fun e w' => e = .returned (.int .i64 0) ∧ VGo W p (replyS σ n author text) F w' := (conform_Reply_okV p σ F vn m rv n author text W h wf he).mono fun e w' ⟨a, b⟩ => ⟨a, b.go⟩
end Go.Proofs.YtilninaminaadaaGreatDoor
