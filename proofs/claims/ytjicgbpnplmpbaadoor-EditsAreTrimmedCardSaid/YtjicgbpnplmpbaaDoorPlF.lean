/- Turned lists, turned back: plain. -/
import Derived.Test.YtjicgbpnplmpbaaDoorPlE
namespace Go.Proofs.YtjicgbpnplmpbaaDoor
open Go.RowKit

def slipL (es : List Ev) (j : Nat) (by_ : Int) : List Ev := es.set j { es.getD j default with inn := (es.getD j default).inn + by_, out := (es.getD j default).out + by_ }
theorem slip_back (es : List Ev) (j : Nat) (hj : j < es.length) (by_ : Int) : slipL (slipL es j by_) j (-by_) = es := by
  have e1 : (slipL es j by_).getD j default = { es.getD j default with inn := (es.getD j default).inn + by_, out := (es.getD j default).out + by_ } := by simp [slipL, List.getD, hj]
  rw [slipL, e1, slipL, List.set_set]
  have h1 : ∀ x : Int, x + by_ + -by_ = x := fun x => by omega
  simp only [h1]
  have : (es.getD j default) = es[j] := by simp [List.getD, hj]
  rw [this]
  exact List.set_getElem_self hj
theorem trimL_get (es : List Ev) (j : Nat) (by_ : Int) (hj : j < es.length) : ∀ k, j + k < es.length → ∀ i, i < es.length →
    (trimL es j by_ k).getD i default = if i = j then { es.getD i default with out := (es.getD i default).out + by_ } else if j < i ∧ i ≤ j + k then { es.getD i default with pos := (es.getD i default).pos + by_ } else es.getD i default
  | 0, _, i, hi => by
    rw [trimL]
    by_cases h : i = j
    · subst h; rw [if_pos rfl]; simp [List.getD, hi]
    · rw [if_neg h, if_neg (by omega)]; simp [List.getD, List.getElem?_set_ne (Ne.symm h)]
  | k + 1, hk, i, hi => by
    have ih := trimL_get es j by_ hj k (by omega) i hi
    have hl := trimL_length es j by_ k
    rw [trimL]
    by_cases h : i = j + (k + 1)
    · subst h
      rw [if_neg (by omega), if_pos (by omega)]
      simp [List.getD, hl, hi]
    · have e : ((trimL es j by_ k).set (j + (k + 1)) { es.getD (j + (k + 1)) default with pos := (es.getD (j + (k + 1)) default).pos + by_ }).getD i default = (trimL es j by_ k).getD i default := by
        simp [List.getD, List.getElem?_set_ne (Ne.symm h)]
      rw [e, ih]
      by_cases h1 : i = j
      · rw [if_pos h1, if_pos h1]
      · rw [if_neg h1, if_neg h1]
        by_cases h2 : j < i ∧ i ≤ j + k
        · rw [if_pos h2, if_pos (by omega)]
        · rw [if_neg h2, if_neg (by omega)]
theorem ext_getD (a b : List Ev) (hl : a.length = b.length) (h : ∀ i, i < b.length → a.getD i default = b.getD i default) : a = b := by
  refine List.ext_getElem hl fun i h1 h2 => ?_
  have := h i h2
  simpa [List.getD, h1, h2] using this
theorem trim_back (es : List Ev) (j : Nat) (hj : j < es.length) (by_ : Int) (k : Nat) (hk : j + k < es.length) : trimL (trimL es j by_ k) j (-by_) k = es := by
  have hl := trimL_length es j by_ k
  have h1 : ∀ x : Int, x + by_ + -by_ = x := fun x => by omega
  refine ext_getD _ _ (by rw [trimL_length, hl]) fun i hi => ?_
  rw [trimL_get _ j (-by_) (by omega) k (by omega) i (by omega), trimL_get es j by_ hj k hk i hi]
  by_cases h : i = j
  · rw [if_pos h, if_pos h]; simp only [h1]
  · rw [if_neg h, if_neg h]
    by_cases h2 : j < i ∧ i ≤ j + k
    · rw [if_pos h2, if_pos h2]; simp only [h1]
    · rw [if_neg h2, if_neg h2]
theorem evsTo_same (a b : List Ev) : ∀ k, (∀ i, i < k → a.getD i default = b.getD i default) → evsTo a k = evsTo b k
  | 0, _ => rfl
  | k + 1, h => by
    have ih := evsTo_same a b k fun i hi => h i (by omega)
    have hb : befE a k = befE b k := by
      unfold befE
      by_cases hk : k = 0
      · rw [if_pos hk, if_pos hk]
      · rw [if_neg hk, if_neg hk, h (k - 1) (by omega)]
    have he : errAt a k = errAt b k := by
      unfold errAt
      rw [h k (by omega), hb]
    rw [evsTo, evsTo, ih, he]
/-- An event whose place in its source is out of range ends the check there. -/
theorem far_err (es b : List Ev) (j : Nat) (hj : j < es.length) (hl : b.length = es.length) (h0 : evsTo es es.length = 0) (hsame : ∀ i, i < j → b.getD i default = es.getD i default)
    (hr : (b.getD j default).reel = (es.getD j default).reel) (hk : (b.getD j default).kind = (es.getD j default).kind)
    (hbad : (b.getD j default).inn < 0 ∨ (b.getD j default).out ≤ (b.getD j default).inn ∨ 16777216 < (b.getD j default).out) : evsTo b b.length = 3 := by
  have hz := evsTo_zero es es.length h0
  have hj0 : evsTo b j = 0 := by
    rw [evsTo_same b es j hsame]
    by_cases hq : evsTo es j = 0
    · exact hq
    · exact absurd ((evsTo_stay es j _ hq rfl es.length (by omega)).symm.trans h0) hq
  obtain ⟨h1, h2, -⟩ := evErr_zero (hz j hj)
  have hej : errAt b j = 3 := by
    unfold errAt
    simp only []
    rw [hr, hk, h1, evErr, if_neg (by simp), if_neg (by omega), if_pos (by omega)]
  refine evsTo_stay b (j + 1) 3 (by omega) ?_ _ (by omega)
  rw [evsTo, if_neg (by rw [hj0]; simp)]
  exact hej
theorem clone_open {w : World} {B : Nat} {T : TypeId} {v : Value} {es : List Ev} (h : w.ownsRow B T 6 v es.length (evCells es)) (hne : es ≠ []) :
    ∃ g c cs, v = .slice (some ⟨g, 0, none⟩) es.length c ∧ B ≤ g ∧ Bx w g T cs ∧ es.length ≤ c ∧ c ≤ maxLen ∧ Holds cs es := by
  obtain ⟨_, h | ⟨g, c, cur, hv, hg, hx, h1, h2, _, h3⟩⟩ := h
  · exact absurd (List.eq_nil_of_length_eq_zero h.2) hne
  · exact ⟨g, c, cur, hv, hg, hx, h1, h2, holds_clone h3⟩
end Go.Proofs.YtjicgbpnplmpbaaDoor
