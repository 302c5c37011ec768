/- Turned lists, turned back: plain. -/
import Derived.Test.YtemlabmmafcapaaGreatDoorEvt
import Derived.OwnWalk
import Derived.Test.YtemlabmmafcapaaGreatDoorSlp
namespace Go.Proofs.YtemlabmmafcapaaGreatDoor

section
open Go.RowKit

def Ev.six (e : Ev) : List Value := [.string e.reel, .int .i64 e.kind, .int .i64 e.len, .int .i64 e.inn, .int .i64 e.out, .int .i64 e.pos]
def evCells (es : List Ev) : List Value := es.flatMap Ev.six
theorem evCells_length (es : List Ev) : (evCells es).length = es.length * 6 := by
  induction es with
  | nil => rfl
  | cons e r ih => rw [evCells, List.flatMap_cons, List.length_append, ← evCells, ih, List.length_cons]; simp [Ev.six]; omega
theorem evCells_get (es : List Ev) : ∀ (k r : Nat), k < es.length → r < 6 → (evCells es)[k * 6 + r]? = (es.getD k default).six[r]? := by
  induction es with
  | nil => intro k r h; simp at h
  | cons e t ih =>
    intro k r hk hr
    have hl : e.six.length = 6 := rfl
    rw [evCells, List.flatMap_cons, ← evCells]
    cases k with
    | zero => rw [List.getElem?_append_left (by rw [hl]; omega)]; simp
    | succ k =>
      rw [List.getElem?_append_right (by rw [hl]; omega), hl, show (k + 1) * 6 + r - 6 = k * 6 + r by omega, ih k r (by simpa using hk) hr]
      simp
theorem EvAt.six {w : World} {b i : Nat} {e : Ev} (h : EvAt w b i e) (r : Nat) (u : Value) (hr : e.six[r]? = some u) : w.cell? ⟨b, i + r, none⟩ = some u := by
  obtain ⟨q0, q1, q2, q3, q4, q5⟩ := h
  match r, hr with
  | 0, hr => cases hr; exact q0
  | 1, hr => cases hr; exact q1
  | 2, hr => cases hr; exact q2
  | 3, hr => cases hr; exact q3
  | 4, hr => cases hr; exact q4
  | 5, hr => cases hr; exact q5
  | n + 6, hr => simp [Ev.six] at hr

set_option maxRecDepth 100000 in
set_option maxHeartbeats 2000000 in
theorem slices_CloneE (b o c : Nat) (es : List Ev) (W : World) (hN : es.length ≤ 1000) (hat : ∀ k, k < es.length → EvAt W b (o + k * 6) (es.getD k default)) :
    Calls Tryz.prog 49 #[.slice (some ⟨b, o, none⟩) es.length c] W fun e w' => ∃ v', e = .returned v' ∧ w'.ownsRow W.heap.size 55 6 v' es.length (evCells es) ∧ Below W.heap.size W w' := by
  have hinfo : (Tryz.prog.info? 55).map (fun i => (i.zero, i.size, i.bytes)) = some (some (.agg #[.string ⟨#[]⟩, .int .i64 0, .int .i64 0, .int .i64 0, .int .i64 0, .int .i64 0]), 6, 56) := by kernel_rfl
  obtain ⟨i0, hi, hz0, hz1, hz2⟩ := info_parts hinfo
  have q22 : ∀ (w : World) (a : Option Addr) (n c n' c' : Nat), (binOp .eql 22 (.slice a n c) (.slice none n' c')).run Tryz.prog w = .ok (.bool a.isNone) w := fun w a n c n' c' => Lib.run_eql_slice_nil w _ _ a n c n' c' Tryz.underlying22
  have A := Lib.hid hat
  clear hat
  generalize hn : es.length = n at hN ⊢
  have Hn := Lib.hid hn
  clear hn
  go_enter Tryz.func49, Tryz.ntmps49
  go_wp2_with (at_builtin; refine wpList_append_own _ rfl _ _ 22 rfl W.heap.size 55 i0 (.agg #[.string ⟨#[]⟩, .int .i64 0, .int .i64 0, .int .i64 0, .int .i64 0, .int .i64 0]) 6 56 Tryz.underlying22 hi hz0 hz1 hz2 rfl (by decide) _ _ _ rfl (World.ownsRow_made W #[] 0 (Nat.le_refl _) (Nat.zero_le _) rfl) ⟨b, o, none⟩ n c (evCells es) rfl ?qc1 ?qc2 ?qc3 ?qc4 ?qc5 ?qc6 ?_)
  case qc1 => rw [evCells_length, Hn.out]
  case qc2 =>
    intro j u hj
    have hlt := (List.getElem?_eq_some_iff.1 hj).1
    rw [evCells_length] at hlt
    have hk : j / 6 < es.length := by omega
    have hr : j % 6 < 6 := by omega
    have hjj : j = j / 6 * 6 + j % 6 := by omega
    rw [hjj, evCells_get es _ _ hk hr] at hj
    rw [Addr.add_lit]
    refine Lib.cell?_alloc_some _ ?_
    have := (A.out _ hk).six _ _ hj
    rw [hjj, ← Nat.add_assoc]; exact this
  case qc3 =>
    intro u hu
    obtain ⟨e, _, he⟩ := List.mem_flatMap.1 hu
    simp only [Ev.six, List.mem_cons, List.mem_nil_iff, or_false] at he
    rcases he with rfl | rfl | rfl | rfl | rfl | rfl <;> rfl
  case qc4 => unfold maxLen; omega
  case qc5 => omega
  case qc6 => simp
  intro v' w1 hown hgrow hnil
  go_wp2
  go_ret
  refine ⟨v', rfl, by simpa using hown, ?_⟩
  exact ((Below.refl _ W).alloc (Nat.le_refl _) _).grown hgrow (by simp) (by intro k hk; simp [Value.ownBlock] at hk; omega)
end

section
open Go.RowKit

/-- The block's cells after k of the events behind were moved. -/
def trimC (cs : Array Value) (off : Nat) (by_ out : Int) (ps : Nat → Int) : Nat → Array Value
  | 0 => cs.setIfInBounds (off + 4) (.int .i64 (out + by_))
  | k + 1 => (trimC cs off by_ out ps k).setIfInBounds (off + (k + 1) * 6 + 5) (.int .i64 (ps (k + 1) + by_))
theorem trimC_ahead (cs : Array Value) (off : Nat) (by_ out : Int) (ps : Nat → Int) : ∀ k j, k < j → (trimC cs off by_ out ps k)[off + j * 6 + 5]? = cs[off + j * 6 + 5]?
  | 0, j, h => by rw [trimC, Array.getElem?_setIfInBounds_ne (by omega)]
  | k + 1, j, h => by rw [trimC, Array.getElem?_setIfInBounds_ne (by omega)]; exact trimC_ahead cs off by_ out ps k j (by omega)

/-- conform.Slip$1, with the block's cells. -/
theorem conform_Slip1x (g off m c pb : Nat) (T : TypeId) (cs : Array Value) (by_ inn out : Int) (W : World) (hm : 0 < m) (hx : Bx W g T cs)
    (hp : W.cell? ⟨pb, 0, none⟩ = some (.int .i64 by_)) (h3 : cs[off + 3]? = some (.int .i64 inn)) (h4 : cs[off + 4]? = some (.int .i64 out))
    (b1 : 0 ≤ inn) (b2 : inn ≤ 16777216) (b3 : 0 ≤ out) (b4 : out ≤ 16777216) (b5 : -1073741824 ≤ by_) (b6 : by_ ≤ 1073741824) :
    Calls Tryz.prog 27 #[.slice (some ⟨g, off, none⟩) m c, .pointer (some ⟨pb, 0, none⟩)] W fun e w' => e = .returned (.tuple #[]) ∧ Bx w' g T ((cs.setIfInBounds (off + 3) (.int .i64 (inn + by_))).setIfInBounds (off + 4) (.int .i64 (out + by_))) ∧ Below g W w' := by
  obtain ⟨q, f, l⟩ := hx.all
  refine (conform_Slip1 g off m c pb by_ inn out W hm hp (by rw [q]; exact h3) (by rw [q]; exact h4) f b1 b2 b3 b4 b5 b6).mono ?_
  rintro e w' ⟨rfl, n, rfl⟩
  exact ⟨rfl, Bx.drewN (Bx.set (Bx.set hx _ _) _ _) n, below_drewN (Below.set' (Nat.le_refl g) (Below.set' (Nat.le_refl g) (Below.refl g W))) n⟩
end

section
open Go.RowKit

/-- The cells cs begin with the events es. -/
def Holds (cs : Array Value) (es : List Ev) : Prop := ∀ k r, k < es.length → r < 6 → cs[k * 6 + r]? = (es.getD k default).six[r]?
theorem Holds.slE {w : World} {g : Nat} {T : TypeId} {cs : Array Value} {es : List Ev} (h : Holds cs es) (hx : Bx w g T cs) (hl : es.length ≤ maxLen) (c : Nat) : SlE w (.slice (some ⟨g, 0, none⟩) es.length c) es := by
  obtain ⟨q, _, l⟩ := hx.all
  refine ⟨_, c, rfl, hl, .inr ⟨g, 0, rfl, l, fun k hk => ?_⟩⟩
  have a : ∀ r, r < 6 → w.cell? ⟨g, 0 + k * 6 + r, none⟩ = (es.getD k default).six[r]? := fun r hr => by rw [q, Nat.zero_add]; exact h k r hk hr
  exact ⟨a 0 (by omega), a 1 (by omega), a 2 (by omega), a 3 (by omega), a 4 (by omega), a 5 (by omega)⟩
theorem holds_clone {cur : Array Value} {es : List Ev} (h : cur.toList.take (es.length * 6) = evCells es) : Holds cur es := by
  intro k r hk hr
  rw [← evCells_get es k r hk hr, ← h, List.getElem?_take_of_lt (by omega), Array.getElem?_toList]
theorem Holds.slip {cs : Array Value} {es : List Ev} (h : Holds cs es) (j : Nat) (hj : j < es.length) (i o : Int) :
    Holds ((cs.setIfInBounds (j * 6 + 3) (.int .i64 i)).setIfInBounds (j * 6 + 4) (.int .i64 o)) (es.set j { es.getD j default with inn := i, out := o }) := by
  intro k r hk hr
  rw [List.length_set] at hk
  have hin : ∀ r, r < 6 → j * 6 + r < cs.size := fun r hr => by
    have := h j r hj hr
    have e : ((es.getD j default).six[r]?).isSome := by simp [Ev.six]; omega
    rw [← this] at e
    simpa using e
  by_cases hkj : k = j
  · subst hkj
    have e1 : (es.set k { es.getD k default with inn := i, out := o }).getD k default = { es.getD k default with inn := i, out := o } := by simp [List.getD, hj]
    rw [e1]
    have hh := h k r hj hr
    have h3 := hin 3 (by omega)
    have h4 := hin 4 (by omega)
    rcases (by omega : r = 0 ∨ r = 1 ∨ r = 2 ∨ r = 3 ∨ r = 4 ∨ r = 5) with rfl | rfl | rfl | rfl | rfl | rfl
    · rw [Array.getElem?_setIfInBounds_ne (by omega), Array.getElem?_setIfInBounds_ne (by omega), hh]; rfl
    · rw [Array.getElem?_setIfInBounds_ne (by omega), Array.getElem?_setIfInBounds_ne (by omega), hh]; rfl
    · rw [Array.getElem?_setIfInBounds_ne (by omega), Array.getElem?_setIfInBounds_ne (by omega), hh]; rfl
    · rw [Array.getElem?_setIfInBounds_ne (by omega), Array.getElem?_setIfInBounds_self_of_lt h3]; rfl
    · rw [Array.getElem?_setIfInBounds_self_of_lt (by simpa using h4)]; rfl
    · rw [Array.getElem?_setIfInBounds_ne (by omega), Array.getElem?_setIfInBounds_ne (by omega), hh]; rfl
  · have e1 : (es.set j { es.getD j default with inn := i, out := o }).getD k default = es.getD k default := by simp [List.getD, List.getElem?_set_ne (Ne.symm hkj)]
    rw [e1, Array.getElem?_setIfInBounds_ne (by omega), Array.getElem?_setIfInBounds_ne (by omega)]
    exact h k r hk hr
theorem Holds.put {cs : Array Value} {es : List Ev} (h : Holds cs es) (j r0 : Nat) (hj : j < es.length) (h0 : r0 < 6) (v : Value) (e' : Ev)
    (he : ∀ r, r < 6 → e'.six[r]? = if r = r0 then some v else (es.getD j default).six[r]?) : Holds (cs.setIfInBounds (j * 6 + r0) v) (es.set j e') := by
  intro k r hk hr
  rw [List.length_set] at hk
  by_cases hkj : k = j
  · subst hkj
    have e1 : (es.set k e').getD k default = e' := by simp [List.getD, hj]
    rw [e1, he r hr]
    by_cases hrr : r = r0
    · subst hrr
      have hin : k * 6 + r < cs.size := by
        have := h k r hj hr
        have e : ((es.getD k default).six[r]?).isSome := by simp [Ev.six]; omega
        rw [← this] at e
        simpa using e
      rw [Array.getElem?_setIfInBounds_self_of_lt hin, if_pos rfl]
    · rw [Array.getElem?_setIfInBounds_ne (by omega), if_neg hrr]
      exact h k r hj hr
  · have e1 : (es.set j e').getD k default = es.getD k default := by simp [List.getD, List.getElem?_set_ne (Ne.symm hkj)]
    rw [e1, Array.getElem?_setIfInBounds_ne (by omega)]
    exact h k r hk hr
/-- The list after event j's end was moved, and the k events behind it. -/
def trimL (es : List Ev) (j : Nat) (by_ : Int) : Nat → List Ev
  | 0 => es.set j { es.getD j default with out := (es.getD j default).out + by_ }
  | k + 1 => (trimL es j by_ k).set (j + (k + 1)) { es.getD (j + (k + 1)) default with pos := (es.getD (j + (k + 1)) default).pos + by_ }
theorem trimL_length (es : List Ev) (j : Nat) (by_ : Int) : ∀ k, (trimL es j by_ k).length = es.length
  | 0 => by rw [trimL, List.length_set]
  | k + 1 => by rw [trimL, List.length_set, trimL_length es j by_ k]
theorem trimL_ahead (es : List Ev) (j : Nat) (by_ : Int) : ∀ k i, j + k < i → (trimL es j by_ k).getD i default = es.getD i default
  | 0, i, h => by rw [trimL]; simp [List.getD, List.getElem?_set_ne (show j ≠ i by omega)]
  | k + 1, i, h => by
    have := trimL_ahead es j by_ k i (by omega)
    rw [trimL, ← this]
    simp [List.getD, List.getElem?_set_ne (show j + (k + 1) ≠ i by omega)]
theorem Holds.trim {cs : Array Value} {es : List Ev} (h : Holds cs es) (j : Nat) (hj : j < es.length) (by_ : Int) :
    ∀ k, j + k < es.length → Holds (trimC cs (j * 6) by_ (es.getD j default).out (fun i => (es.getD (j + i) default).pos) k) (trimL es j by_ k)
  | 0, _ => by
    rw [trimC, trimL]
    refine h.put j 4 hj (by omega) _ _ fun r hr => ?_
    rcases (by omega : r = 0 ∨ r = 1 ∨ r = 2 ∨ r = 3 ∨ r = 4 ∨ r = 5) with rfl | rfl | rfl | rfl | rfl | rfl <;> rfl
  | k + 1, hk => by
    have ih := Holds.trim h j hj by_ k (by omega)
    rw [trimC, trimL, show j * 6 + (k + 1) * 6 + 5 = (j + (k + 1)) * 6 + 5 by omega]
    refine ih.put (j + (k + 1)) 5 (by rw [trimL_length]; exact hk) (by omega) _ _ fun r hr => ?_
    rw [trimL_ahead _ _ _ _ _ (by omega)]
    rcases (by omega : r = 0 ∨ r = 1 ∨ r = 2 ∨ r = 3 ∨ r = 4 ∨ r = 5) with rfl | rfl | rfl | rfl | rfl | rfl <;> rfl
end

section
open Go.RowKit

def slipL (es : List Ev) (j : Nat) (by_ : Int) : List Ev := es.set j { es.getD j default with inn := (es.getD j default).inn + by_, out := (es.getD j default).out + by_ }
theorem slip_back (es : List Ev) (j : Nat) (hj : j < es.length) (by_ : Int) : slipL (slipL es j by_) j (-by_) = es := by
  have e1 : (slipL es j by_).getD j default = { es.getD j default with inn := (es.getD j default).inn + by_, out := (es.getD j default).out + by_ } := by simp [slipL, List.getD, hj]
  rw [slipL, e1, slipL, List.set_set]
  have h1 : ∀ x : Int, x + by_ + -by_ = x := fun x => by omega
  simp only [h1]
  have : (es.getD j default) = es[j] := by simp [List.getD, hj]
  rw [this]
  exact List.set_getElem_self hj
theorem trimL_get (es : List Ev) (j : Nat) (by_ : Int) (hj : j < es.length) : ∀ k, j + k < es.length → ∀ i, i < es.length →
    (trimL es j by_ k).getD i default = if i = j then { es.getD i default with out := (es.getD i default).out + by_ } else if j < i ∧ i ≤ j + k then { es.getD i default with pos := (es.getD i default).pos + by_ } else es.getD i default
  | 0, _, i, hi => by
    rw [trimL]
    by_cases h : i = j
    · subst h; rw [if_pos rfl]; simp [List.getD, hi]
    · rw [if_neg h, if_neg (by omega)]; simp [List.getD, List.getElem?_set_ne (Ne.symm h)]
  | k + 1, hk, i, hi => by
    have ih := trimL_get es j by_ hj k (by omega) i hi
    have hl := trimL_length es j by_ k
    rw [trimL]
    by_cases h : i = j + (k + 1)
    · subst h
      rw [if_neg (by omega), if_pos (by omega)]
      simp [List.getD, hl, hi]
    · have e : ((trimL es j by_ k).set (j + (k + 1)) { es.getD (j + (k + 1)) default with pos := (es.getD (j + (k + 1)) default).pos + by_ }).getD i default = (trimL es j by_ k).getD i default := by
        simp [List.getD, List.getElem?_set_ne (Ne.symm h)]
      rw [e, ih]
      by_cases h1 : i = j
      · rw [if_pos h1, if_pos h1]
      · rw [if_neg h1, if_neg h1]
        by_cases h2 : j < i ∧ i ≤ j + k
        · rw [if_pos h2, if_pos (by omega)]
        · rw [if_neg h2, if_neg (by omega)]
theorem ext_getD (a b : List Ev) (hl : a.length = b.length) (h : ∀ i, i < b.length → a.getD i default = b.getD i default) : a = b := by
  refine List.ext_getElem hl fun i h1 h2 => ?_
  have := h i h2
  simpa [List.getD, h1, h2] using this
theorem trim_back (es : List Ev) (j : Nat) (hj : j < es.length) (by_ : Int) (k : Nat) (hk : j + k < es.length) : trimL (trimL es j by_ k) j (-by_) k = es := by
  have hl := trimL_length es j by_ k
  have h1 : ∀ x : Int, x + by_ + -by_ = x := fun x => by omega
  refine ext_getD _ _ (by rw [trimL_length, hl]) fun i hi => ?_
  rw [trimL_get _ j (-by_) (by omega) k (by omega) i (by omega), trimL_get es j by_ hj k hk i hi]
  by_cases h : i = j
  · rw [if_pos h, if_pos h]; simp only [h1]
  · rw [if_neg h, if_neg h]
    by_cases h2 : j < i ∧ i ≤ j + k
    · rw [if_pos h2, if_pos h2]; simp only [h1]
    · rw [if_neg h2, if_neg h2]
theorem evsTo_same (a b : List Ev) : ∀ k, (∀ i, i < k → a.getD i default = b.getD i default) → evsTo a k = evsTo b k
  | 0, _ => rfl
  | k + 1, h => by
    have ih := evsTo_same a b k fun i hi => h i (by omega)
    have hb : befE a k = befE b k := by
      unfold befE
      by_cases hk : k = 0
      · rw [if_pos hk, if_pos hk]
      · rw [if_neg hk, if_neg hk, h (k - 1) (by omega)]
    have he : errAt a k = errAt b k := by
      unfold errAt
      rw [h k (by omega), hb]
    rw [evsTo, evsTo, ih, he]
/-- An event whose place in its source is out of range ends the check there. -/
theorem far_err (es b : List Ev) (j : Nat) (hj : j < es.length) (hl : b.length = es.length) (h0 : evsTo es es.length = 0) (hsame : ∀ i, i < j → b.getD i default = es.getD i default)
    (hr : (b.getD j default).reel = (es.getD j default).reel) (hk : (b.getD j default).kind = (es.getD j default).kind)
    (hbad : (b.getD j default).inn < 0 ∨ (b.getD j default).out ≤ (b.getD j default).inn ∨ 16777216 < (b.getD j default).out) : evsTo b b.length = 3 := by
  have hz := evsTo_zero es es.length h0
  have hj0 : evsTo b j = 0 := by
    rw [evsTo_same b es j hsame]
    by_cases hq : evsTo es j = 0
    · exact hq
    · exact absurd ((evsTo_stay es j _ hq rfl es.length (by omega)).symm.trans h0) hq
  obtain ⟨h1, h2, -⟩ := evErr_zero (hz j hj)
  have hej : errAt b j = 3 := by
    unfold errAt
    simp only []
    rw [hr, hk, h1, evErr, if_neg (by simp), if_neg (by omega), if_pos (by omega)]
  refine evsTo_stay b (j + 1) 3 (by omega) ?_ _ (by omega)
  rw [evsTo, if_neg (by rw [hj0]; simp)]
  exact hej
theorem clone_open {w : World} {B : Nat} {T : TypeId} {v : Value} {es : List Ev} (h : w.ownsRow B T 6 v es.length (evCells es)) (hne : es ≠ []) :
    ∃ g c cs, v = .slice (some ⟨g, 0, none⟩) es.length c ∧ B ≤ g ∧ Bx w g T cs ∧ es.length ≤ c ∧ c ≤ maxLen ∧ Holds cs es := by
  obtain ⟨_, h | ⟨g, c, cur, hv, hg, hx, h1, h2, _, h3⟩⟩ := h
  · exact absurd (List.eq_nil_of_length_eq_zero h.2) hne
  · exact ⟨g, c, cur, hv, hg, hx, h1, h2, holds_clone h3⟩
end
end Go.Proofs.YtemlabmmafcapaaGreatDoor
