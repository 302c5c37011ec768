/- What has to be fetched for a list of events: the pulls, and that they cover what is shown. No program in sight. -/
import Derived.Test.YteebkfdocdmboaaDoorEmP
import Derived.Test.YteebkfdocdmboaaDoorDaW
import Derived.Test.YteebkfdocdmboaaDoorDfQ
namespace Go.Proofs.YteebkfdocdmboaaDoor
open Go.RowKit

def nextLen (es : List Ev) (i : Nat) : Int := if i + 1 < es.length then (es.getD (i + 1) default).len else 0
def pullAt (es : List Ev) (h : Int) (i : Nat) : Pl := ⟨(es.getD i default).reel, max ((es.getD i default).inn - h) 0, (es.getD i default).out + h + nextLen es i⟩
def pullsL (es : List Ev) (h : Int) : List Pl := (List.range es.length).map (pullAt es h)
theorem pullsL_len (es : List Ev) (h : Int) : (pullsL es h).length = es.length := by simp [pullsL]
/-- What has to be fetched. -/
def IsSrc (es : List Ev) (h : Int) (L : List Pl) : Prop := ∃ Z, St.Srt cR Z ∧ St.Stb cR Vp (pullsL es h) Z ∧ St.VL Vp Z ∧ L = mList Z
theorem IsSrc.same {es : List Ev} {h : Int} {L K : List Pl} (h1 : IsSrc es h L) (h2 : IsSrc es h K) : L = K := by
  obtain ⟨Z, s1, t1, v1, rfl⟩ := h1
  obtain ⟨Y, s2, t2, v2, rfl⟩ := h2
  rw [St.srt_uniq cR_ord v1 v2 s1 s2 ⟨by rw [t2.1, t1.1], fun z hz => by rw [t2.2 z hz, t1.2 z hz]⟩]

theorem ev_bd {es : List Ev} (hok : evsTo es es.length = 0) {k : Nat} (hk : k < es.length) : 0 ≤ (es.getD k default).inn ∧ (es.getD k default).inn < (es.getD k default).out ∧ (es.getD k default).out ≤ 16777216 ∧ 0 ≤ (es.getD k default).pos ∧ (es.getD k default).pos ≤ 16777216 ∧ befE es k ≤ (es.getD k default).pos ∧
    (((es.getD k default).kind = 1 ∧ (es.getD k default).len = 0) ∨ ((es.getD k default).kind = 2 ∧ 1 ≤ (es.getD k default).len ∧ (es.getD k default).len ≤ 250 ∧ k ≠ 0 ∧ (es.getD k default).pos = befE es k)) := by
  have hz := evsTo_zero es es.length hok k hk
  obtain ⟨_, _, b1, b2, b3, b4, b5, b6⟩ := evErr_zero hz
  refine ⟨b1, b2, b3, b4, b5, b6, ?_⟩
  have h2 := evErr_zero2 hz
  rcases h2 with h2 | ⟨h2, h3, h4, h5, h6⟩
  · exact .inl h2
  · refine .inr ⟨h2, h3, h4, h6, ?_⟩
    unfold errAt evErr at hz
    simp only at hz
    split at hz; · cases hz
    split at hz; · cases hz
    split at hz; · cases hz
    split at hz; · cases hz
    split at hz; · cases hz
    rename_i hn
    have hn2 : ¬ ((es.getD k default).kind = 2 ∧ ((es.getD k default).len < 1 ∨ (es.getD k default).out - (es.getD k default).inn < (es.getD k default).len ∨ 250 < (es.getD k default).len ∨ k = 0 ∨ (es.getD k default).pos ≠ befE es k)) := fun h => hn (.inr h)
    by_cases he : (es.getD k default).pos = befE es k
    · exact he
    · exact absurd ⟨h2, .inr (.inr (.inr (.inr he)))⟩ hn2
theorem nextLen_bd {es : List Ev} (hok : evsTo es es.length = 0) (i : Nat) : 0 ≤ nextLen es i ∧ nextLen es i ≤ 250 := by
  unfold nextLen
  split
  · rename_i h
    obtain ⟨_, _, _, _, _, _, h1⟩ := ev_bd hok h
    rcases h1 with h1 | h1 <;> omega
  · omega
theorem pulls_vp {es : List Ev} (hok : evsTo es es.length = 0) {h : Int} (h0 : 0 ≤ h) (h1 : h ≤ 1000) : St.VL Vp (pullsL es h) := by
  intro p hp
  unfold pullsL at hp
  obtain ⟨i, hi, rfl⟩ := List.mem_map.1 hp
  obtain ⟨b1, b2, b3, _⟩ := ev_bd hok (List.mem_range.1 hi)
  unfold Vp pullAt
  simp only
  omega
theorem src_cov {es : List Ev} (hok : evsTo es es.length = 0) {h : Int} (h0 : 0 ≤ h) (h1 : h ≤ 1000) {L : List Pl} (hL : IsSrc es h L) {i : Nat} (hi : i < es.length) {n : Int} (n1 : (es.getD i default).inn ≤ n) (n2 : n < (es.getD i default).out + nextLen es i) : cov L (es.getD i default).reel n := by
  obtain ⟨Z, s1, t1, v1, rfl⟩ := hL
  have hv := pulls_vp hok h0 h1
  have hm : pullAt es h i ∈ pullsL es h := List.mem_map.2 ⟨i, List.mem_range.2 hi, rfl⟩
  have hz : pullAt es h i ∈ Z := by
    have hm2 : pullAt es h i ∈ (pullsL es h).filter (St.eqv cR (pullAt es h i)) := List.mem_filter.2 ⟨hm, cR_ord.self (hv _ hm)⟩
    rw [← t1.2 _ (hv _ hm)] at hm2
    exact (List.mem_filter.1 hm2).1
  obtain ⟨b1, b2, b3, _⟩ := ev_bd hok hi
  exact (mList_cov Z s1).1 _ hz n (by unfold pullAt; simp only; omega) (by unfold pullAt; simp only; omega)

/-- What is shown is fetched. -/
theorem shot_cov {es : List Ev} (hok : evsTo es es.length = 0) {h : Int} (h0 : 0 ≤ h) (h1 : h ≤ 1000) {L : List Pl} (hL : IsSrc es h L) {f : Int} {k : Nat} (hk : atK es f = some k) : cov L (shOf es f k).reel (shOf es f k).fr ∧ ((shOf es f k).src = ⟨#[]⟩ ∨ cov L (shOf es f k).src (shOf es f k).sf) := by
  have hk' := hk
  unfold atK at hk'
  rw [List.find?_range_eq_some] at hk'
  obtain ⟨hh, hkl, _⟩ := hk'
  have hkl := List.mem_range.1 hkl
  unfold hit Ev.stop at hh
  simp only [Bool.and_eq_true, decide_eq_true_eq] at hh
  obtain ⟨b1, b2, b3, b4, b5, b6, b7⟩ := ev_bd hok hkl
  have hn := nextLen_bd hok k
  have hm := src_cov hok h0 h1 hL hkl (n := (es.getD k default).inn + f - (es.getD k default).pos) (by omega) (by omega)
  unfold shOf
  simp only
  split
  · rename_i hd
    refine ⟨hm, .inr ?_⟩
    rcases b7 with b7 | ⟨_, c1, c2, c3, c4⟩
    · omega
    · have hk1 : k - 1 < es.length := by omega
      obtain ⟨d1, d2, d3, _⟩ := ev_bd hok hk1
      have hb : befE es k = (es.getD (k - 1) default).stop := by unfold befE; rw [if_neg c3]
      rw [hb] at c4
      unfold Ev.stop at c4
      have hl : nextLen es (k - 1) = (es.getD k default).len := by unfold nextLen; rw [show k - 1 + 1 = k by omega, if_pos hkl]
      show cov L (es.getD (k - 1) default).reel ((es.getD (k - 1) default).inn + f - (es.getD (k - 1) default).pos)
      exact src_cov hok h0 h1 hL hk1 (by omega) (by rw [hl]; omega)
  · exact ⟨hm, .inl rfl⟩

end Go.Proofs.YteebkfdocdmboaaDoor
