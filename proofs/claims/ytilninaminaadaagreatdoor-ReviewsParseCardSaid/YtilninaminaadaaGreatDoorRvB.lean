/- conform's Review: Add. -/
import Derived.Test.YtilninaminaadaaGreatDoorRvA
import Derived.Test.YtilninaminaadaaGreatDoorNam
namespace Go.Proofs.YtilninaminaadaaGreatDoor
open Go.RowKit

theorem infoNote : (Tryz.prog.info? 67).map (fun i => (i.zero, i.size, i.bytes)) = some (some (.agg #[.int .i64 0, .string ⟨#[]⟩, .int .i64 0, .string ⟨#[]⟩, .string ⟨#[]⟩, .bool false, .slice none 0 0, .string ⟨#[]⟩, .int .i64 0]), 9, 120) := by kernel_rfl
set_option maxRecDepth 100000 in
set_option maxHeartbeats 8000000 in
theorem conform_Add_err (p : Nat) (σ : Rv) (F : Nat → Prop) (vn : Value) (m : Nat) (rv : Nat → Value) (shot : ByteArray) (frame : Int) (author text : ByteArray) (W : World) (h : VO W p σ F vn m rv) (wf : Wf σ) (he : addE σ shot frame author text ≠ 0) :
    Calls Tryz.prog 17 #[.pointer (some ⟨p, 0, none⟩), .string shot, .int .i64 frame, .string author, .string text] W fun e w' => e = .returned (.tuple #[.int .i64 0, .int .i64 (addE σ shot frame author text)]) ∧ Below W.heap.size W w' := by
  unfold addE at he ⊢
  obtain ⟨a, c, rfl, hc1, hc2⟩ := h.row.form
  have H := Lib.hid h
  have hlen := wf.len
  generalize hn : σ.notes.length = n0 at *
  clear h wf hn
  by_cases h1 : nameB shot = false
  · rw [if_pos (.inl h1)]
    clear he H
    go_enter Tryz.func17, Tryz.ntmps17
    go_wp2_with fail
    refine (conform_isName _ _).mono ?_
    rintro e w1 ⟨rfl, hb⟩
    go_wp2_with fail
    go_ret2
    exact ⟨rfl, hb⟩
  replace h1 : nameB shot = true := by simpa using h1
  by_cases h2 : nameB author = false
  · rw [if_pos (.inr h2)]
    clear he H
    go_enter Tryz.func17, Tryz.ntmps17
    go_wp2_with fail
    refine (conform_isName _ _).mono ?_
    rintro e w1 ⟨rfl, hb⟩
    go_wp2_with fail
    refine (conform_isName _ _).mono ?_
    rintro e w2 ⟨rfl, hb2⟩
    replace hb := bcall hb hb2
    go_wp2_with fail
    go_ret2
    exact ⟨rfl, hb⟩
  replace h2 : nameB author = true := by simpa using h2
  rw [if_neg (by rw [h1, h2]; simp)] at he ⊢
  by_cases h3 : frame < 0 ∨ 16777216 < frame
  · rw [if_pos h3]
    clear he H
    rcases h3 with h3 | h3
    all_goals
      go_enter Tryz.func17, Tryz.ntmps17
      go_wp2_with fail
      refine (conform_isName _ _).mono ?_
      rintro e w1 ⟨rfl, hb⟩
      go_wp2_with fail
      refine (conform_isName _ _).mono ?_
      rintro e w2 ⟨rfl, hb2⟩
      replace hb := bcall hb hb2
      clear hb2
      go_wp2_with fail
      all_goals try omega
      go_ret2
      exact ⟨rfl, hb⟩
  rw [if_neg h3] at he ⊢
  have h31 : 0 ≤ frame := by omega
  have h32 : frame ≤ 16777216 := by omega
  clear h3
  by_cases h4 : text.size = 0
  · rw [if_pos (.inl h4)]
    have e4 : text.toList.isEmpty = true := by rw [text_empty]; simpa using h4
    clear he H h4
    go_enter Tryz.func17, Tryz.ntmps17
    go_wp2_with fail
    refine (conform_isName _ _).mono ?_
    rintro e w1 ⟨rfl, hb⟩
    go_wp2_with fail
    refine (conform_isName _ _).mono ?_
    rintro e w2 ⟨rfl, hb2⟩
    replace hb := bcall hb hb2
    clear hb2
    go_wp2_with fail
    all_goals try omega
    go_ret2
    exact ⟨rfl, hb⟩
  have e4 : text.toList.isEmpty = false := by rw [text_empty]; simpa using h4
  by_cases h5 : textB text = false
  · rw [if_pos (.inr h5)]
    clear he H h4
    go_enter Tryz.func17, Tryz.ntmps17
    go_wp2_with fail
    refine (conform_isName _ _).mono ?_
    rintro e w1 ⟨rfl, hb⟩
    go_wp2_with fail
    refine (conform_isName _ _).mono ?_
    rintro e w2 ⟨rfl, hb2⟩
    replace hb := bcall hb hb2
    clear hb2
    go_wp2_with fail
    all_goals try omega
    refine (conform_isText _ _).mono ?_
    rintro e w3 ⟨rfl, hb2⟩
    replace hb := bcall hb hb2
    clear hb2
    go_wp2_with fail
    go_ret2
    exact ⟨rfl, hb⟩
  replace h5 : textB text = true := by simpa using h5
  rw [if_neg (by rw [h5]; simpa using h4)] at he ⊢
  by_cases h6 : 2000 ≤ n0
  · rw [if_pos h6]
    clear he h4
    go_enter Tryz.func17, Tryz.ntmps17
    go_wp2_with fail
    refine (conform_isName _ _).mono ?_
    rintro e w1 ⟨rfl, hb⟩
    go_wp2_with fail
    refine (conform_isName _ _).mono ?_
    rintro e w2 ⟨rfl, hb2⟩
    replace hb := bcall hb hb2
    clear hb2
    go_wp2_with fail
    all_goals try omega
    refine (conform_isText _ _).mono ?_
    rintro e w3 ⟨rfl, hb2⟩
    replace hb := bcall hb hb2
    clear hb2
    obtain ⟨q, f, l⟩ := (H.out.bx.keep hb).all
    clear H
    go_wp2_with fail
    all_goals try omega
    go_ret2
    exact ⟨rfl, hb⟩
  rw [if_neg h6] at he
  exact absurd rfl he

theorem one_note (L : List Value) (h : ∀ u ∈ L, u.oneCell' = true) : ∀ u ∈ L, u.oneCell' = true := h
def newNote (n0 : Nat) (shot : ByteArray) (frame : Int) (author text : ByteArray) : List Value := [.int .i64 ((n0 : Int) + 1), .string shot, .int .i64 frame, .string author, .string text, .bool true, .slice none 0 0, .string ⟨#[]⟩, .int .i64 0]
theorem newNote_one (n0 : Nat) (shot : ByteArray) (frame : Int) (author text : ByteArray) : ∀ u ∈ newNote n0 shot frame author text, u.oneCell' = true := by
  intro u hu
  simp only [newNote, List.mem_cons, List.not_mem_nil, or_false] at hu
  rcases hu with rfl | rfl | rfl | rfl | rfl | rfl | rfl | rfl | rfl <;> rfl
/-- A note has been added. -/
theorem VO.added {W w w6 : World} {p : Nat} {σ : Rv} {F : Nat → Prop} {vn : Value} {m : Nat} {rv : Nat → Value} {g' cap' : Nat} {shot : ByteArray} {frame : Int} {author text : ByteArray} (h : VO w p σ F vn m rv) (hW : Below W.heap.size W w)
    (h1 : Bx w6 p 47 #[.slice (some ⟨g', 0, none⟩) (σ.notes.length + 1) cap', .map (some m), .int .i64 σ.count])
    (h2 : RowN w6 67 9 (.slice (some ⟨g', 0, none⟩) (σ.notes.length + 1) cap') (σ.notes.length + 1) (fun k j => if k < σ.notes.length then ncell σ.notes rv k j else (newNote σ.notes.length shot frame author text).getD j undef))
    (h3 : MapT w6 m (delA σ.appr shot)) (hat : vn.ownBlock = some g' ∨ w.heap.size ≤ g') (hlt : g' < w6.heap.size) (hs : w.heap.size ≤ w6.heap.size) (ho : w6.os = w.os ∧ w6.tape = w.tape ∧ w6.output = w.output)
    (hk : ∀ b, b < w.heap.size → b ≠ p → b ≠ m → vn.ownBlock ≠ some b → w6.heap[b]? = w.heap[b]?) : VGo W p (addS σ shot frame author text) F w6 := by
  have hln : (addS σ shot frame author text).notes.length = σ.notes.length + 1 := by simp [addS]
  have hget : ∀ k, nAt (addS σ shot frame author text).notes k = if k < σ.notes.length then nAt σ.notes k else if k = σ.notes.length then ⟨shot, frame, author, text, true, [], ⟨#[]⟩, 0⟩ else default := fun k => nAt_snoc
  have hsz := hW.size
  refine ⟨fun b => F b ∨ b = g', .slice (some ⟨g', 0, none⟩) (σ.notes.length + 1) cap', m, fun k => if k < σ.notes.length then rv k else .slice none 0 0, ⟨?_, ?_, ?_, ?_, h3, .inl h.fp, .inl h.fm, ?_, ?_, ?_⟩, ?_, ?_⟩
  · exact h1
  · rw [hln]
    refine h2.congr fun k j hk' hj => ?_
    by_cases hkn : k < σ.notes.length
    · rw [if_pos hkn]
      unfold ncell
      rw [hget k, if_pos hkn]
      simp only [if_pos hkn]
    · obtain rfl : k = σ.notes.length := by omega
      rw [if_neg hkn]
      unfold ncell
      rw [hget, if_neg hkn, if_pos rfl]
      simp only [if_neg hkn]
      rcases (by omega : j = 0 ∨ j = 1 ∨ j = 2 ∨ j = 3 ∨ j = 4 ∨ j = 5 ∨ j = 6 ∨ j = 7 ∨ j = 8) with rfl | rfl | rfl | rfl | rfl | rfl | rfl | rfl | rfl <;> rfl
  · intro k hk'
    rw [hln] at hk'
    rw [hget k]
    by_cases hkn : k < σ.notes.length
    · simp only [if_pos hkn]
      refine (h.reps k hkn).lift fun b hb hblt => ?_
      obtain ⟨a1, a2, a3⟩ := h.ne_r k hkn b hb
      exact hk b hblt a1 a2 a3
    · simp only [if_neg hkn, if_pos (show k = σ.notes.length by omega)]
      exact RowN.nil _ _ _ _
  · intro j k hj hk' hne b hb hb'
    rw [hln] at hj hk'
    by_cases h5 : j < σ.notes.length
    · by_cases h6 : k < σ.notes.length
      · simp only [if_pos h5, if_pos h6] at hb hb'
        exact h.apart j k h5 h6 hne b hb hb'
      · simp only [if_neg h6] at hb'
        cases hb'
    · simp only [if_neg h5] at hb
      cases hb
  · intro b hb
    simp only [Value.ownBlock, Option.some.injEq] at hb
    exact .inr hb.symm
  · intro k hk' b hb
    rw [hln] at hk'
    by_cases h5 : k < σ.notes.length
    · simp only [if_pos h5] at hb
      exact .inl (h.fr k h5 b hb)
    · simp only [if_neg h5] at hb
      cases hb
  · rintro b (hb | rfl)
    · exact Nat.lt_of_lt_of_le (h.flt b hb) hs
    · exact hlt
  · exact ⟨ho.1.trans hW.os, ho.2.1.trans hW.tape, ho.2.2.trans hW.output, by omega, fun b hb hnF => by
      rw [hk b (by omega) (fun e => hnF (e ▸ h.fp)) (fun e => hnF (e ▸ h.fm)) (fun e => hnF (h.fv b e))]
      exact hW.block b hb⟩
  · rintro b (hb | rfl)
    · exact .inl hb
    · rcases hat with hat | hat
      · exact .inl (h.fv _ hat)
      · exact .inr (by omega)

set_option maxRecDepth 100000 in
set_option maxHeartbeats 8000000 in
theorem conform_Add_ok (p : Nat) (σ : Rv) (F : Nat → Prop) (vn : Value) (m : Nat) (rv : Nat → Value) (shot : ByteArray) (frame : Int) (author text : ByteArray) (W : World) (h : VO W p σ F vn m rv) (he : addE σ shot frame author text = 0) :
    Calls Tryz.prog 17 #[.pointer (some ⟨p, 0, none⟩), .string shot, .int .i64 frame, .string author, .string text] W fun e w' => e = .returned (.tuple #[.int .i64 ((σ.notes.length : Int) + 1), .int .i64 0]) ∧ VGo W p (addS σ shot frame author text) F w' := by
  unfold addE at he
  split at he; · cases he
  split at he; · cases he
  split at he; · cases he
  split at he; · cases he
  rename_i h1 h2 h3 h4
  have n1 : nameB shot = true := by simpa using fun e => h1 (.inl e)
  have n2 : nameB author = true := by simpa using fun e => h1 (.inr e)
  have n3 : textB text = true := by simpa using fun e => h3 (.inr e)
  have e4 : text.toList.isEmpty = false := by rw [text_empty]; simpa using fun e => h3 (.inl e)
  have h31 : 0 ≤ frame := by omega
  have h32 : frame ≤ 16777216 := by omega
  have hs40 := name_sz n1
  clear h1 h2 h3 he
  obtain ⟨a, c, rfl, hc1, hc2⟩ := h.row.form
  have H := Lib.hid h
  obtain ⟨n0, hn⟩ : ∃ n, n = σ.notes.length := ⟨_, rfl⟩
  rw [← hn] at H hc1 h4 ⊢
  have Hn := Lib.hid hn
  have hadd : IntKind.i64.wrap ((n0 : Int) + 1) = (n0 : Int) + 1 := IntWalk.i64_in _ (by omega)
  clear h hn
  go_enter Tryz.func17, Tryz.ntmps17
  go_wp2_with fail
  refine (conform_isName _ _).mono ?_
  rintro e w1 ⟨rfl, hb⟩
  go_wp2_with fail
  refine (conform_isName _ _).mono ?_
  rintro e w2 ⟨rfl, hb2⟩
  replace hb := bcall hb hb2
  clear hb2
  go_wp2_with fail
  all_goals try omega
  refine (conform_isText _ _).mono ?_
  rintro e w3 ⟨rfl, hb2⟩
  replace hb := bcall hb hb2
  clear hb2
  obtain ⟨q, f, l⟩ := (H.out.bx.keep hb).all
  have hx := H.out.keep hb
  have hne1 := hx.ne_vp
  have hpm := hx.ne_pm
  have hflt := H.out.flt
  have hrow : RowN w3 67 9 (.slice a n0 c) n0 (ncell σ.notes rv) := by have := hx.row; rw [← Hn.out] at this; exact this
  have Hx := Lib.hid hx
  clear hx H
  go_upto_region 10 with fail
  all_goals try omega
  have hn63 := hrow
  clear hn63
  go_wp2_with (at_builtin; refine rowN_append (news := newNote n0 shot frame author text) infoNote Tryz.underlying45 rfl (by decide) rfl (.tmp 54) (.tmp 62) rfl rfl w3.heap.size rfl (hrow.keep (bnew (Below.refl _ _))) (Bx.new _ _ _) rfl (newNote_one _ _ _ _ _) (by omega) (by omega) ?_)
  intro g' cap' w4 hrow4 hgrow hat hlt
  have xa := (Hx.out.bx.alloc (.cells (newNote n0 shot frame author text).toArray 67))
  have x4 := grown_bx hgrow xa (fun e => (hne1 p e).1 rfl)
  obtain ⟨q4, f4, l4⟩ := x4.all
  clear q f l
  have hgp : g' ≠ p ∧ g' ≠ m := by
    rcases hat with e | e
    · exact hne1 g' e
    · have e1 := Hx.out.bx.lt
      have e2 := Hx.out.map.lt
      omega
  have map4 : MapT w4 m σ.appr := Hx.out.map.lift (by
    have e2 := Hx.out.map.lt
    rw [hgrow.block m (by simp; omega) (fun e => (hne1 m e.symm).2 rfl)]
    exact Below.heap_alloc _ _ _ e2)
  go_upto_region 11 with fail
  refine name_world ?_
  intro w5 hw5
  have on5 : Only p w4 w5 := by rw [hw5]; exact (Only.refl p w4).set _ _
  have x5 : Bx w5 p 47 #[.slice (some ⟨g', 0, none⟩) (n0 + 1) cap', .map (some m), .int .i64 σ.count] := by rw [hw5]; exact x4.set 0 _
  have row5 := on5.rowN hrow4 (fun g hg => by simp only [Value.ownBlock, Option.some.injEq] at hg; omega)
  have map5 : MapT w5 m σ.appr := map4.lift (on5.block m (Ne.symm hpm))
  have hlt5 : g' < w5.heap.size := by rw [on5.size]; exact hlt
  obtain ⟨q5, f5, l5⟩ := x5.all
  clear hw5 q4 f4 l4 hlt
  have Hat := Lib.hid hat
  clear hat
  go_wp2_with (at_delete; refine mapT_delete rfl (.tmp 69) (.tmp 70) rfl map5 rfl shot rfl (by unfold maxLen; omega) ?_)
  intro w6 map6 on6
  have hw3s := Hx.out.bx.lt
  have row6 := on6.rowN row5 (fun g hg => by simp only [Value.ownBlock, Option.some.injEq] at hg; omega)
  have x6 := on6.bx hpm x5
  go_wp2_with fail
  go_ret2
  refine ⟨rfl, ?_⟩
  have hgs : w3.heap.size ≤ w4.heap.size := by have := hgrow.size; simp at this; omega
  have hn := Hn.out
  subst hn
  refine VO.added (w := w3) Hx.out hb x6 row6 map6 ?_ ?_ ?_ ?_ ?_
  · rcases Hat.out with e | e
    · exact .inl e
    · exact .inr (by omega)
  · rw [on6.size]; exact hlt5
  · rw [on6.size, on5.size]; exact hgs
  · exact ⟨on6.os.trans (on5.os.trans hgrow.os), on6.tape.trans (on5.tape.trans hgrow.tape), on6.output.trans (on5.output.trans hgrow.output)⟩
  · intro b hb1 hb2 hb3 hb4
    rw [on6.block b hb3, on5.block b hb2, hgrow.block b (by simp; omega) (fun e => hb4 e.symm)]
    exact Below.heap_alloc _ _ _ hb1
end Go.Proofs.YtilninaminaadaaGreatDoor
