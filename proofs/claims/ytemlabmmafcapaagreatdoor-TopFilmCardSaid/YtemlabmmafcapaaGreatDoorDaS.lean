/- The program's marks and the reference's are the same; where no range has a frame both films have the same. -/
import Derived.Test.YtemlabmmafcapaaGreatDoorDaC
namespace Go.Proofs.YtemlabmmafcapaaGreatDoor
open Go.RowKit

def lastE (es : List Ev) : Int := if es.length = 0 then 0 else (es.getD (es.length - 1) default).stop
/-- What the program's Compare gives. -/
def cmpP (ea eb : List Ev) : List (Int × Int) := rngs (marked ([0, imax (lastE ea) (lastE eb)] ++ marksP ea ++ marksP eb)) (alike2 ea eb) ((marked ([0, imax (lastE ea) (lastE eb)] ++ marksP ea ++ marksP eb)).length - 1)
theorem len_of {es : List Ev} (hok : evsTo es es.length = 0) : ∀ v, v ∈ es → 0 ≤ v.len := by
  intro v hv
  obtain ⟨j, hj, e⟩ := List.mem_iff_getElem.1 hv
  have e : es.getD j default = v := by simp [List.getD, hj, e]
  have := ev_bounds hok hj
  rw [e] at this
  exact this.2.2.2.2.2.1
theorem lastE_mem (es : List Ev) : lastE es = 0 ∨ lastE es ∈ marksP es := by
  unfold lastE
  split
  · exact .inl rfl
  · right
    have hv : es.getD (es.length - 1) default ∈ es := by rw [show es.getD (es.length - 1) default = es[es.length - 1]'(by omega) by simp [List.getD, show es.length - 1 < es.length by omega]]; exact List.getElem_mem _
    exact (marksP_in hv).2.1
theorem marks_same {ea eb : List Ev} (oa : evsTo ea ea.length = 0) (ob : evsTo eb eb.length = 0) : marked ([0, imax (lastE ea) (lastE eb)] ++ marksP ea ++ marksP eb) = marked ([0] ++ marksR ea ++ marksR eb) := by
  refine marked_same fun x => ?_
  simp only [List.mem_append, ← marks_mem ea x (len_of oa), ← marks_mem eb x (len_of ob)]
  constructor
  · rintro ((h | h) | h)
    · have : x = 0 ∨ x = imax (lastE ea) (lastE eb) := by simpa using h
      rcases this with rfl | rfl
      · exact .inl (.inl (by simp))
      · rcases imax_spec (lastE ea) (lastE eb) with ⟨e, _⟩ | ⟨e, _⟩ <;> rw [e]
        · rcases lastE_mem ea with h0 | h0
          · rw [h0]; exact .inl (.inl (by simp))
          · exact .inl (.inr h0)
        · rcases lastE_mem eb with h0 | h0
          · rw [h0]; exact .inl (.inl (by simp))
          · exact .inr h0
    · exact .inl (.inr h)
    · exact .inr h
  · rintro ((h | h) | h)
    · have : x = 0 := by simpa using h
      subst this
      exact .inl (.inl (by simp))
    · exact .inl (.inr h)
    · exact .inr h
theorem cmp_same {ea eb : List Ev} (oa : evsTo ea ea.length = 0) (ob : evsTo eb eb.length = 0) : cmpP ea eb = cmpR ea eb := by
  unfold cmpP cmpR
  rw [marks_same oa ob]
/-- Where nothing is told both films have the same. -/
theorem told_ok {ea eb : List Ev} (oa : evsTo ea ea.length = 0) (ob : evsTo eb eb.length = 0) {f : Int} (hf : 0 ≤ f) (hno : ∀ r, r ∈ cmpR ea eb → ¬ (r.1 ≤ f ∧ f < r.2)) : alike2 ea eb f = true := by
  obtain ⟨hM1, hM2⟩ := marked_spec ([0] ++ marksR ea ++ marksR eb)
  unfold cmpR at hno
  generalize marked ([0] ++ marksR ea ++ marksR eb) = M at *
  have h0M : (0 : Int) ∈ M := (hM2 0).2 (by simp)
  have hge : ∀ x, x ∈ M → 0 ≤ x := by
    intro x hx
    have hx := (hM2 x).1 hx
    rcases List.mem_append.1 hx with hx | hx
    · rcases List.mem_append.1 hx with hx | hx
      · have : x = 0 := by simpa using hx
        omega
      · exact marksR_nonneg oa x hx
    · exact marksR_nonneg ob x hx
  have hn0 : 0 < M.length := List.length_pos_of_mem h0M
  have hat : ∀ x, x ∈ M → M.getD 0 0 ≤ x ∧ x ≤ M.getD (M.length - 1) 0 := by
    intro x hx
    obtain ⟨i, hi, e⟩ := List.mem_iff_getElem.1 hx
    have e : M.getD i 0 = x := by simp [List.getD, hi, e]
    constructor
    · rcases Nat.eq_zero_or_pos i with h | h
      · subst h; omega
      · have := mono_of hM1 h hi; omega
    · rcases Nat.lt_or_ge i (M.length - 1) with h | h
      · have := mono_of hM1 h (by omega); omega
      · rw [show M.length - 1 = i by omega]; omega
  have h00 : M.getD 0 0 = 0 := by
    have a := (hat 0 h0M).1
    have e : M.getD 0 0 = M[0] := by simp [List.getD, hn0]
    have b := hge M[0] (List.getElem_mem hn0)
    omega
  have pa : ∀ x, x ∈ marksP ea → x ∈ M := fun x hx => (hM2 x).2 (by simp only [List.mem_append, ← marks_mem ea x (len_of oa)]; exact .inl (.inr hx))
  have pb : ∀ x, x ∈ marksP eb → x ∈ M := fun x hx => (hM2 x).2 (by simp only [List.mem_append, ← marks_mem eb x (len_of ob)]; exact .inr hx)
  exact untold hM1 h00 rfl pa pb (fun v hv => (hat _ (pa _ (marksP_in hv).2.1)).2) (fun v hv => (hat _ (pb _ (marksP_in hv).2.1)).2) hf hno
end Go.Proofs.YtemlabmmafcapaaGreatDoor
