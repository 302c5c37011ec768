/- A block's cells as events: plain. -/
import Derived.Test.YtjicgbpnplmpbaaDoorClE
import Derived.Test.YtjicgbpnplmpbaaDoorTrm
namespace Go.Proofs.YtjicgbpnplmpbaaDoor
open Go.RowKit

/-- The cells cs begin with the events es. -/
def Holds (cs : Array Value) (es : List Ev) : Prop := ∀ k r, k < es.length → r < 6 → cs[k * 6 + r]? = (es.getD k default).six[r]?
theorem Holds.slE {w : World} {g : Nat} {T : TypeId} {cs : Array Value} {es : List Ev} (h : Holds cs es) (hx : Bx w g T cs) (hl : es.length ≤ maxLen) (c : Nat) : SlE w (.slice (some ⟨g, 0, none⟩) es.length c) es := by
  obtain ⟨q, _, l⟩ := hx.all
  refine ⟨_, c, rfl, hl, .inr ⟨g, 0, rfl, l, fun k hk => ?_⟩⟩
  have a : ∀ r, r < 6 → w.cell? ⟨g, 0 + k * 6 + r, none⟩ = (es.getD k default).six[r]? := fun r hr => by rw [q, Nat.zero_add]; exact h k r hk hr
  exact ⟨a 0 (by omega), a 1 (by omega), a 2 (by omega), a 3 (by omega), a 4 (by omega), a 5 (by omega)⟩
theorem holds_clone {cur : Array Value} {es : List Ev} (h : cur.toList.take (es.length * 6) = evCells es) : Holds cur es := by
  intro k r hk hr
  rw [← evCells_get es k r hk hr, ← h, List.getElem?_take_of_lt (by omega), Array.getElem?_toList]
theorem Holds.slip {cs : Array Value} {es : List Ev} (h : Holds cs es) (j : Nat) (hj : j < es.length) (i o : Int) :
    Holds ((cs.setIfInBounds (j * 6 + 3) (.int .i64 i)).setIfInBounds (j * 6 + 4) (.int .i64 o)) (es.set j { es.getD j default with inn := i, out := o }) := by
  intro k r hk hr
  rw [List.length_set] at hk
  have hin : ∀ r, r < 6 → j * 6 + r < cs.size := fun r hr => by
    have := h j r hj hr
    have e : ((es.getD j default).six[r]?).isSome := by simp [Ev.six]; omega
    rw [← this] at e
    simpa using e
  by_cases hkj : k = j
  · subst hkj
    have e1 : (es.set k { es.getD k default with inn := i, out := o }).getD k default = { es.getD k default with inn := i, out := o } := by simp [List.getD, hj]
    rw [e1]
    have hh := h k r hj hr
    have h3 := hin 3 (by omega)
    have h4 := hin 4 (by omega)
    rcases (by omega : r = 0 ∨ r = 1 ∨ r = 2 ∨ r = 3 ∨ r = 4 ∨ r = 5) with rfl | rfl | rfl | rfl | rfl | rfl
    · rw [Array.getElem?_setIfInBounds_ne (by omega), Array.getElem?_setIfInBounds_ne (by omega), hh]; rfl
    · rw [Array.getElem?_setIfInBounds_ne (by omega), Array.getElem?_setIfInBounds_ne (by omega), hh]; rfl
    · rw [Array.getElem?_setIfInBounds_ne (by omega), Array.getElem?_setIfInBounds_ne (by omega), hh]; rfl
    · rw [Array.getElem?_setIfInBounds_ne (by omega), Array.getElem?_setIfInBounds_self_of_lt h3]; rfl
    · rw [Array.getElem?_setIfInBounds_self_of_lt (by simpa using h4)]; rfl
    · rw [Array.getElem?_setIfInBounds_ne (by omega), Array.getElem?_setIfInBounds_ne (by omega), hh]; rfl
  · have e1 : (es.set j { es.getD j default with inn := i, out := o }).getD k default = es.getD k default := by simp [List.getD, List.getElem?_set_ne (Ne.symm hkj)]
    rw [e1, Array.getElem?_setIfInBounds_ne (by omega), Array.getElem?_setIfInBounds_ne (by omega)]
    exact h k r hk hr
theorem Holds.put {cs : Array Value} {es : List Ev} (h : Holds cs es) (j r0 : Nat) (hj : j < es.length) (h0 : r0 < 6) (v : Value) (e' : Ev)
    (he : ∀ r, r < 6 → e'.six[r]? = if r = r0 then some v else (es.getD j default).six[r]?) : Holds (cs.setIfInBounds (j * 6 + r0) v) (es.set j e') := by
  intro k r hk hr
  rw [List.length_set] at hk
  by_cases hkj : k = j
  · subst hkj
    have e1 : (es.set k e').getD k default = e' := by simp [List.getD, hj]
    rw [e1, he r hr]
    by_cases hrr : r = r0
    · subst hrr
      have hin : k * 6 + r < cs.size := by
        have := h k r hj hr
        have e : ((es.getD k default).six[r]?).isSome := by simp [Ev.six]; omega
        rw [← this] at e
        simpa using e
      rw [Array.getElem?_setIfInBounds_self_of_lt hin, if_pos rfl]
    · rw [Array.getElem?_setIfInBounds_ne (by omega), if_neg hrr]
      exact h k r hj hr
  · have e1 : (es.set j e').getD k default = es.getD k default := by simp [List.getD, List.getElem?_set_ne (Ne.symm hkj)]
    rw [e1, Array.getElem?_setIfInBounds_ne (by omega)]
    exact h k r hk hr
/-- The list after event j's end was moved, and the k events behind it. -/
def trimL (es : List Ev) (j : Nat) (by_ : Int) : Nat → List Ev
  | 0 => es.set j { es.getD j default with out := (es.getD j default).out + by_ }
  | k + 1 => (trimL es j by_ k).set (j + (k + 1)) { es.getD (j + (k + 1)) default with pos := (es.getD (j + (k + 1)) default).pos + by_ }
theorem trimL_length (es : List Ev) (j : Nat) (by_ : Int) : ∀ k, (trimL es j by_ k).length = es.length
  | 0 => by rw [trimL, List.length_set]
  | k + 1 => by rw [trimL, List.length_set, trimL_length es j by_ k]
theorem trimL_ahead (es : List Ev) (j : Nat) (by_ : Int) : ∀ k i, j + k < i → (trimL es j by_ k).getD i default = es.getD i default
  | 0, i, h => by rw [trimL]; simp [List.getD, List.getElem?_set_ne (show j ≠ i by omega)]
  | k + 1, i, h => by
    have := trimL_ahead es j by_ k i (by omega)
    rw [trimL, ← this]
    simp [List.getD, List.getElem?_set_ne (show j + (k + 1) ≠ i by omega)]
theorem Holds.trim {cs : Array Value} {es : List Ev} (h : Holds cs es) (j : Nat) (hj : j < es.length) (by_ : Int) :
    ∀ k, j + k < es.length → Holds (trimC cs (j * 6) by_ (es.getD j default).out (fun i => (es.getD (j + i) default).pos) k) (trimL es j by_ k)
  | 0, _ => by
    rw [trimC, trimL]
    refine h.put j 4 hj (by omega) _ _ fun r hr => ?_
    rcases (by omega : r = 0 ∨ r = 1 ∨ r = 2 ∨ r = 3 ∨ r = 4 ∨ r = 5) with rfl | rfl | rfl | rfl | rfl | rfl <;> rfl
  | k + 1, hk => by
    have ih := Holds.trim h j hj by_ k (by omega)
    rw [trimC, trimL, show j * 6 + (k + 1) * 6 + 5 = (j + (k + 1)) * 6 + 5 by omega]
    refine ih.put (j + (k + 1)) 5 (by rw [trimL_length]; exact hk) (by omega) _ _ fun r hr => ?_
    rw [trimL_ahead _ _ _ _ _ (by omega)]
    rcases (by omega : r = 0 ∨ r = 1 ∨ r = 2 ∨ r = 3 ∨ r = 4 ∨ r = 5) with rfl | rfl | rfl | rfl | rfl | rfl <;> rfl
end Go.Proofs.YtjicgbpnplmpbaaDoor
