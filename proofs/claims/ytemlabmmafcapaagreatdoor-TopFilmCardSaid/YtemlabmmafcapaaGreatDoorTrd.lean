/- conform.changed, for whatever closure. -/
import Derived.Test.YtemlabmmafcapaaGreatDoorChk
import Derived.Test.YtemlabmmafcapaaGreatDoorPlF
import Derived.Laws.EntriesVeiled
namespace Go.Proofs.YtemlabmmafcapaaGreatDoor
open Go.RowKit

theorem call_enter {P : Program} {f : FuncId} {fn : Func} (hf : P.funcs[f]? = some fn) (hn : (fn.name == "runtime.NumGoroutine") = false) (hb : fn.body.isNone = false) (args : Array Value) (w : World) : (callFunc f args).run P w = .ok (.enter f args) w := by
  have h1 : fn.name ≠ "runtime.NumGoroutine" := by simpa using hn
  have h2 : ¬ fn.body = none := by intro e; rw [e] at hb; cases hb
  simp [callFunc, hf, h1, h2]
theorem name_callw {P : Program} {f : FuncId} {args : Array Value} {w0 : World} {Q : Ending → World → Prop} (h : ∀ wb, wb = w0 → Calls P f args wb Q) : Calls P f args w0 Q := h _ rfl

/-- The error of a turned list, and what comes back. -/
def turnErr (t : ByteArray) (r : Int) (es : List Ev) (event : Int) (es' : List Ev) : Int :=
  if editsErr t r es ≠ 0 then editsErr t r es else if event < 0 ∨ (es.length : Int) ≤ event then 11 else editsErr t r es'
def outT (er : Int) (t : ByteArray) : ByteArray := if er = 0 then t else ⟨#[]⟩
def outR (er r : Int) : Int := if er = 0 then r else 0
def outE (er : Int) (es : List Ev) : List Ev := if er = 0 then es else []
theorem slE_nil (w : World) : SlE w (.slice none 0 0) [] := ⟨none, 0, rfl, by unfold maxLen; simp, .inl rfl⟩
def OffB (v : Value) (B : Nat) : Prop := ∀ a n c, v = .slice (some a) n c → B ≤ a.block
theorem offB_nil (B n c : Nat) : OffB (.slice none n c) B := fun a n c h => by cases h
theorem offB_at {B g : Nat} (h : B ≤ g) (o n c : Nat) : OffB (.slice (some ⟨g, o, none⟩) n c) B := fun a n c h' => by cases h'; exact h
theorem OffB.mono {v : Value} {A B : Nat} (h : OffB v B) (hA : A ≤ B) : OffB v A := fun a n c h' => Nat.le_trans hA (h a n c h')
theorem SlE.put {w : World} {v x : Value} {es : List Ev} {B b i : Nat} (h : SlE w v es) (ho : OffB v B) (hb : b < B) : SlE (w.setCell ⟨b, i, none⟩ x) v es := by
  obtain ⟨a, c, rfl, h2, h3⟩ := h
  refine ⟨a, c, rfl, h2, ?_⟩
  rcases h3 with h3 | ⟨g, o, rfl, h5, h6⟩
  · exact .inl h3
  · have hg : B ≤ g := ho _ _ _ rfl
    refine .inr ⟨g, o, rfl, by simpa using h5, fun k hk => ?_⟩
    have hne : ∀ q, (w.setCell ⟨b, i, none⟩ x).cell? ⟨g, q, none⟩ = w.cell? ⟨g, q, none⟩ := fun q => by unfold World.cell?; rw [Below.heap_setCell _ _ _ _ (by simp; omega)]
    obtain ⟨q0, q1, q2, q3, q4, q5⟩ := h6 k hk
    exact ⟨by rw [hne]; exact q0, by rw [hne]; exact q1, by rw [hne]; exact q2, by rw [hne]; exact q3, by rw [hne]; exact q4, by rw [hne]; exact q5⟩
/-- A call's result: the list, or the empty one. -/
def Turned (W : World) (t : ByteArray) (r : Int) (er : Int) (es' : List Ev) (e : Ending) (w' : World) : Prop :=
  ∃ v', e = .returned (.tuple #[.agg #[.string (outT er t), .int .i64 (outR er r), v'], .int .i64 er]) ∧ SlE w' v' (outE er es') ∧ OffB v' W.heap.size ∧ Below W.heap.size W w'
theorem turned_bad {W w' : World} {t : ByteArray} {r er : Int} {es' : List Ev} (h : er ≠ 0) (hb : Below W.heap.size W w') : Turned W t r er es' (.returned (.tuple #[.agg #[.string ⟨#[]⟩, .int .i64 0, .slice none 0 0], .int .i64 er])) w' := by
  refine ⟨.slice none 0 0, ?_, ?_, offB_nil _ _ _, hb⟩
  · rw [outT, outR, if_neg h, if_neg h]
  · rw [outE, if_neg h]; exact slE_nil _
theorem turned_ok {W w' : World} {t : ByteArray} {r er : Int} {es' : List Ev} {v' : Value} (h : er = 0) (hs : SlE w' v' es') (ho : OffB v' W.heap.size) (hb : Below W.heap.size W w') : Turned W t r er es' (.returned (.tuple #[.agg #[.string t, .int .i64 r, v'], .int .i64 0])) w' := by
  refine ⟨v', ?_, ?_, ho, hb⟩
  · rw [outT, outR, if_pos h, if_pos h, h]
  · rw [outE, if_pos h]; exact hs
theorem turnErr_list {t : ByteArray} {r : Int} {es : List Ev} {event : Int} {es' : List Ev} {er : Int} (h : turnErr t r es event es' = er) (h0 : editsErr t r es ≠ 0) : er = editsErr t r es := by rw [← h, turnErr, if_pos h0]
theorem turnErr_place {t : ByteArray} {r : Int} {es : List Ev} {event : Int} {es' : List Ev} {er : Int} (h : turnErr t r es event es' = er) (h0 : editsErr t r es = 0) (h1 : event < 0 ∨ (es.length : Int) ≤ event) : er = 11 := by rw [← h, turnErr, if_neg (by simpa using h0), if_pos h1]
theorem turnErr_new {t : ByteArray} {r : Int} {es : List Ev} {event : Int} {es' : List Ev} {er : Int} (h : turnErr t r es event es' = er) (h0 : editsErr t r es = 0) (h1 : ¬(event < 0 ∨ (es.length : Int) ≤ event)) : er = editsErr t r es' := by rw [← h, turnErr, if_neg (by simpa using h0), if_neg h1]
theorem edits_ok {t : ByteArray} {r : Int} {es : List Ev} (h : editsErr t r es = 0) : nameB t = true ∧ rateB r = true ∧ es.length ≤ 500 ∧ evsTo es es.length = 0 := by
  unfold editsErr at h
  split at h; · cases h
  split at h; · cases h
  split at h; · cases h
  exact ⟨by simpa using ‹¬nameB t = false›, by simpa using ‹¬rateB r = false›, by omega, h⟩
theorem edits_in {t : ByteArray} {r : Int} {es : List Ev} (h : editsErr t r es = 0) (k : Nat) (hk : k < es.length) :
    0 ≤ (es.getD k default).inn ∧ (es.getD k default).inn < (es.getD k default).out ∧ (es.getD k default).out ≤ 16777216 ∧ 0 ≤ (es.getD k default).pos ∧ (es.getD k default).pos ≤ 16777216 := by
  obtain ⟨_, _, _, h4⟩ := edits_ok h
  obtain ⟨_, _, a, b, c, d, e, _⟩ := evErr_zero (evsTo_zero es _ h4 k hk)
  exact ⟨a, b, c, d, e⟩

/-- A closure that turns the events es to es', given the events from j on. -/
structure Moves (W : World) (cf : FuncId) (cap : Array Value) (j : Nat) (es es' : List Ev) : Prop where
  len : es'.length = es.length
  moves : ∀ (g c : Nat) (T : TypeId) (cs : Array Value) (u : World), Below W.heap.size W u → W.heap.size ≤ g → Holds cs es → Bx u g T cs → es.length ≤ c →
    Calls Tryz.prog cf (#[.slice (some ⟨g, j * 6, none⟩) (es.length - j) (c - j)] ++ cap) u fun e u' => e = .returned (.tuple #[]) ∧ (∃ cs', Bx u' g T cs' ∧ Holds cs' es') ∧ Below g u u'

set_option maxRecDepth 100000 in
set_option maxHeartbeats 4000000 in
theorem conform_changed (t : ByteArray) (r event : Int) (v : Value) (es es' : List Ev) (cf : FuncId) (cap : Array Value) (W : World) (hs : SlE W v es) (hcf : ∀ (args : Array Value) (u : World), (callFunc cf args).run Tryz.prog u = .ok (.enter cf args) u)
    (hM : ∀ j : Nat, editsErr t r es = 0 → event = (j : Int) → j < es.length → Moves W cf cap j es es') :
    Calls Tryz.prog 26 #[.agg #[.string t, .int .i64 r, v], .int .i64 event, .func (.func cf) #[] cap] W fun e w' => Turned W t r (turnErr t r es event es') es' e w' := by
  have Hs := Lib.hid hs
  obtain ⟨a, c, rfl, hmax, hform⟩ := hs
  unfold maxLen at hmax
  obtain ⟨n, hn⟩ : ∃ n, n = es.length := ⟨_, rfl⟩
  have Hs' : Hid (SlE W (.slice a n c) es) := by rw [hn]; exact Hs
  rw [← hn] at hmax ⊢
  generalize her : turnErr t r es event es' = er
  have Her := Lib.hid her
  have HM := Lib.hid hM
  have Hn := Lib.hid hn
  clear her hM hn Hs
  go_enter Tryz.func26, Tryz.ntmps26
  go_upto_region 1 with fail
  refine name_world ?_
  intro w0 hw0
  have x3 : Bx w0 W.heap.size 24 #[.string t, .int .i64 r, .slice a n c] := by rw [hw0]; exact Bx.alloc (Bx.new _ _ _) _
  have x6 : Bx w0 (W.heap.size + 1) 24 #[.string ⟨#[]⟩, .int .i64 0, .slice none 0 0] := by rw [hw0]; exact Bx.at _ (by simp)
  have B : Below W.heap.size W w0 := by rw [hw0]; exact bnew (bnew (Below.refl _ W))
  clear hw0
  obtain ⟨q3, f3, l3⟩ := x3.all
  obtain ⟨q6, f6, l6⟩ := x6.all
  go_wp2_with fail
  refine (conform_CheckList t r _ es _ (Hs'.out.keep B)).mono ?_
  rintro e w1 ⟨rfl, hb1⟩
  replace x3 := x3.keep hb1
  replace x6 := x6.keep hb1
  replace B := bcall B hb1
  clear hb1 q3 f3 l3 q6 f6 l6
  obtain ⟨q3, f3, l3⟩ := x3.all
  obtain ⟨q6, f6, l6⟩ := x6.all
  by_cases h0 : editsErr t r es = 0
  rotate_left
  · have hr := turnErr_list Her.out h0
    generalize editsErr t r es = e0 at h0 hr
    subst hr
    have hne : (er != 0) = true := by simpa using h0
    go_wp2_with fail
    refine bodyPost_ret (v := .tuple #[.agg #[.string ⟨#[]⟩, .int .i64 0, .slice none 0 0], .int .i64 er]) (by simp [results, Tryz.results26, go_sem, q6]) rfl (turned_bad h0 ?_)
    exact bput (by omega) (bput (by omega) (bput (by omega) B))
  rw [h0]
  by_cases h1 : event < 0
  · have hr := turnErr_place Her.out h0 (.inl h1)
    subst hr
    have hd : decide (event < 0) = true := decide_eq_true h1
    go_wp2_with fail
    refine bodyPost_ret (v := .tuple #[.agg #[.string ⟨#[]⟩, .int .i64 0, .slice none 0 0], .int .i64 11]) (by simp [results, Tryz.results26, go_sem, q6]) rfl (turned_bad (by omega) ?_)
    exact bput (by omega) (bput (by omega) (bput (by omega) B))
  obtain ⟨j, rfl⟩ := Int.eq_ofNat_of_zero_le (show 0 ≤ event by omega)
  by_cases h2 : n ≤ j
  · have hr := turnErr_place Her.out h0 (.inr (by rw [← Hn.out]; exact_mod_cast h2))
    subst hr
    have hd1 : decide ((j : Int) < 0) = false := decide_eq_false (by omega)
    have hd : decide ((n : Int) ≤ (j : Int)) = true := by simp; omega
    go_wp2_with fail
    refine bodyPost_ret (v := .tuple #[.agg #[.string ⟨#[]⟩, .int .i64 0, .slice none 0 0], .int .i64 11]) (by simp [results, Tryz.results26, go_sem, q6]) rfl (turned_bad (by omega) ?_)
    exact bput (by omega) (bput (by omega) (bput (by omega) B))
  have hr := turnErr_new Her.out h0 (by have := Hn.out; omega)
  have hMv := HM.out j h0 rfl (by have := Hn.out; omega)
  have h5 := (edits_ok h0).2.2.1
  have hne : es ≠ [] := by intro h; have := Hn.out; rw [h] at this; simp at this; omega
  rcases hform with hf | ⟨b, o, rfl, hbl, hat⟩
  · exact absurd hf hne
  have hat' := fun k hk => (hat k hk).keep B hbl
  have Hr := Lib.hid hr
  have HMv := Lib.hid hMv
  have Hat := Lib.hid hat'
  have H0 := Lib.hid h0
  have Hne := Lib.hid hne
  rw [← Hn.out] at h5
  clear hr hMv hat hat' h0 hne Her HM
  have hd1 : decide ((j : Int) < 0) = false := decide_eq_false (by omega)
  have hd : decide ((n : Int) ≤ (j : Int)) = false := by simp; omega
  go_wp2_with fail
  rw [Hn.out]
  refine (slices_CloneE b o c es _ (by have := Hn.out; omega) Hat.out).mono ?_
  rintro e w2 ⟨v', rfl, hown, hb2⟩
  rw [← Hn.out]
  obtain ⟨g, c', cs, rfl, hg, hx, hlc, hcm, hH⟩ := clone_open hown Hne.out
  unfold maxLen at hcm
  rw [← Hn.out] at hlc ⊢
  have hgW : W.heap.size + 1 < g := by omega
  replace x3 := x3.keep hb2
  replace x6 := x6.keep hb2
  replace B := bcall B hb2
  clear hb2 q3 f3 l3 q6 f6 l6 hown Hat
  have hc2 : c' - j ≠ 0 := by omega
  have HH := Lib.hid hH
  clear hH
  obtain ⟨q3, f3, l3⟩ := x3.all
  obtain ⟨q6, f6, l6⟩ := x6.all
  go_wp2_with fail
  refine name_callw ?_
  intro wb hwb
  replace x3 : Bx wb W.heap.size 24 #[.string t, .int .i64 r, .slice (some ⟨g, 0, none⟩) n c'] := by rw [hwb]; exact Bx.set x3 2 _
  replace x6 : Bx wb (W.heap.size + 1) 24 #[.string ⟨#[]⟩, .int .i64 0, .slice none 0 0] := by rw [hwb]; exact Bx.other x6 _ _ (by simp)
  replace hx : Bx wb g 55 cs := by rw [hwb]; exact Bx.other hx _ _ (by simp; omega)
  replace B : Below W.heap.size W wb := by rw [hwb]; exact bput (Nat.le_refl _) B
  clear hwb q3 f3 l3 q6 f6 l6
  rw [Hn.out]
  refine (HMv.out.moves g c' _ cs wb B (by omega) HH.out hx (by rw [← Hn.out]; exact hlc)).mono ?_
  rw [← Hn.out]
  rintro e w3 ⟨rfl, ⟨cs', hx', hH'⟩, hb3⟩
  replace x3 := x3.below hb3 (by omega)
  replace x6 := x6.below hb3 hgW
  replace B := B.trans (hb3.mono (by omega))
  have hl' := HMv.out.len
  have hn' : n = es'.length := by rw [hl']; exact Hn.out
  have hsl : SlE w3 (.slice (some ⟨g, 0, none⟩) n c') es' := by rw [hn']; exact hH'.slE hx' (by unfold maxLen; omega) c'
  have HH' := Lib.hid (And.intro hn' hH')
  have Hsl := Lib.hid hsl
  clear hx hl' hn' hsl hH' hb3
  obtain ⟨q3, f3, l3⟩ := x3.all
  obtain ⟨q6, f6, l6⟩ := x6.all
  go_wp2_with fail
  refine (conform_CheckList t r _ es' _ Hsl.out).mono ?_
  rintro e w4 ⟨rfl, hb4⟩
  rw [← Hr.out]
  replace x3 := x3.keep hb4
  replace x6 := x6.keep hb4
  replace B := bcall B hb4
  replace hx' := hx'.keep hb4
  clear hb4 q3 f3 l3 q6 f6 l6 Hsl
  obtain ⟨q3, f3, l3⟩ := x3.all
  obtain ⟨q6, f6, l6⟩ := x6.all
  by_cases h9 : er = 0
  · subst h9
    go_wp2_with fail
    refine bodyPost_ret (v := .tuple #[.agg #[.string t, .int .i64 r, .slice (some ⟨g, 0, none⟩) n c'], .int .i64 0]) (by simp [results, Tryz.results26, go_sem, q6]) rfl (turned_ok rfl ?_ (offB_at (by omega) _ _ _) ?_)
    · rw [HH'.out.1]
      refine HH'.out.2.slE (Bx.other (Bx.other (Bx.other hx' _ _ (by simp; omega)) _ _ (by simp; omega)) _ _ (by simp; omega)) (by rw [← HH'.out.1]; unfold maxLen; omega) c'
    · exact bput (by omega) (bput (by omega) (bput (by omega) B))
  · have hne : (er != 0) = true := by simpa using h9
    go_wp2_with fail
    refine bodyPost_ret (v := .tuple #[.agg #[.string ⟨#[]⟩, .int .i64 0, .slice none 0 0], .int .i64 er]) (by simp [results, Tryz.results26, go_sem, q6]) rfl (turned_bad h9 ?_)
    exact bput (by omega) (bput (by omega) (bput (by omega) B))
end Go.Proofs.YtemlabmmafcapaaGreatDoor
