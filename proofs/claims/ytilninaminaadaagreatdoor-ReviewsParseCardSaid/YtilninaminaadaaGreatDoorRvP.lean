/- A review, plain: its notes, replies and approvals, and what each call makes of them. No program in sight. -/
import Derived.Test.YtilninaminaadaaGreatDoorNamP
import Derived.Test.YtilninaminaadaaGreatDoorRvM
namespace Go.Proofs.YtilninaminaadaaGreatDoor

structure Rp where
  author : ByteArray
  text : ByteArray
instance : Inhabited Rp := ⟨⟨⟨#[]⟩, ⟨#[]⟩⟩⟩
structure Nt where
  shot : ByteArray
  frame : Int
  author : ByteArray
  text : ByteArray
  opn : Bool
  reps : List Rp
  closer : ByteArray
  closed : Int
instance : Inhabited Nt := ⟨⟨⟨#[]⟩, 0, ⟨#[]⟩, ⟨#[]⟩, false, [], ⟨#[]⟩, 0⟩⟩
structure Rv where
  notes : List Nt
  appr : List (ByteArray × ByteArray)
  count : Int
def noB0 : ByteArray := ⟨#[]⟩
def newV : Rv := ⟨[], [], 0⟩

/-- A text of a note. -/
def textB (s : ByteArray) : Bool := decide (s.size ≤ 1000) && s.data.toList.all fun c => decide (32 ≤ c.toNat)

def addE (σ : Rv) (shot : ByteArray) (frame : Int) (author text : ByteArray) : Int :=
  if nameB shot = false ∨ nameB author = false then 6 else if frame < 0 ∨ 16777216 < frame then 3 else if text.size = 0 ∨ textB text = false then 2 else if 2000 ≤ σ.notes.length then 4 else 0
def addS (σ : Rv) (shot : ByteArray) (frame : Int) (author text : ByteArray) : Rv :=
  ⟨σ.notes ++ [⟨shot, frame, author, text, true, [], ⟨#[]⟩, 0⟩], delA σ.appr shot, σ.count⟩

/-- The note of number n. -/
def ntE (σ : Rv) (n : Int) (author : ByteArray) : Int := if n < 1 ∨ (σ.notes.length : Int) < n then 11 else if nameB author = false then 6 else 0
def ntI (n : Int) : Nat := (n - 1).toNat
def ntA (σ : Rv) (n : Int) : Nt := σ.notes.getD (ntI n) default
def modN (σ : Rv) (n : Int) (x : Nt) : List Nt := σ.notes.set (ntI n) x

def replyE (σ : Rv) (n : Int) (author text : ByteArray) : Int :=
  if ntE σ n author ≠ 0 then ntE σ n author else if text.size = 0 ∨ textB text = false then 2 else if (ntA σ n).opn = false then 13 else if 100 ≤ (ntA σ n).reps.length then 4 else 0
def replyS (σ : Rv) (n : Int) (author text : ByteArray) : Rv :=
  ⟨modN σ n { ntA σ n with reps := (ntA σ n).reps ++ [⟨author, text⟩] }, σ.appr, σ.count⟩

def closeE (σ : Rv) (n : Int) (author : ByteArray) : Int :=
  if ntE σ n author ≠ 0 then ntE σ n author else if (ntA σ n).opn = false then 13 else if author = (ntA σ n).author ∧ ((ntA σ n).reps.any fun y => !decide (y.author = author)) = false then 12 else 0
def closeS (σ : Rv) (n : Int) (author : ByteArray) : Rv :=
  ⟨modN σ n { ntA σ n with opn := false, closer := author, closed := σ.count + 1 }, σ.appr, σ.count + 1⟩

def openE (σ : Rv) (n : Int) (author : ByteArray) : Int :=
  if ntE σ n author ≠ 0 then ntE σ n author else if (ntA σ n).opn = true then 13 else 0
def openS (σ : Rv) (n : Int) : Rv :=
  ⟨modN σ n { ntA σ n with opn := true }, delA σ.appr (ntA σ n).shot, σ.count⟩

/-- Who closed a note of the shot last: after the first k notes. -/
def lastC (shot : ByteArray) : List Nt → Int × ByteArray → Int × ByteArray
  | [], p => p
  | x :: l, p => lastC shot l (if x.shot = shot ∧ p.1 < x.closed then (x.closed, x.closer) else p)
def anyOpen (shot : ByteArray) (l : List Nt) : Bool := l.any fun x => decide (x.shot = shot) && x.opn
def apprE (σ : Rv) (shot author : ByteArray) : Int :=
  if nameB shot = false ∨ nameB author = false then 6 else if anyOpen shot σ.notes = true then 13 else if (lastC shot σ.notes (0, ⟨#[]⟩)).2 = author then 12 else 0
def apprS (σ : Rv) (shot author : ByteArray) : Rv := ⟨σ.notes, putA σ.appr shot author, σ.count⟩

/-- The notes that are asked for, each with its number. -/
def pick (shot : ByteArray) (onlyOpen : Bool) (l : List (Nat × Nt)) : List (Nat × Nt) := l.filter fun p => (decide (shot.size = 0) || decide (p.2.shot = shot)) && (p.2.opn || !onlyOpen)
def numbered (l : List Nt) : List (Nat × Nt) := (List.range l.length).map fun k => (k + 1, l.getD k default)
def notesQ (σ : Rv) (shot : ByteArray) (onlyOpen : Bool) : List (Nat × Nt) := pick shot onlyOpen (numbered σ.notes)

/-- What every review is. -/
structure WfN (x : Nt) (cnt : Int) : Prop where
  shot : nameB x.shot = true
  author : nameB x.author = true
  frame : 0 ≤ x.frame ∧ x.frame ≤ 16777216
  text : x.text.size ≠ 0 ∧ textB x.text = true
  reps : x.reps.length ≤ 100 ∧ ∀ y ∈ x.reps, nameB y.author = true ∧ y.text.size ≠ 0 ∧ textB y.text = true
  closed : 0 ≤ x.closed ∧ x.closed ≤ cnt
  closer : (x.closed = 0 ∧ x.closer = ⟨#[]⟩) ∨ (0 < x.closed ∧ nameB x.closer = true)
structure Wf (σ : Rv) : Prop where
  len : σ.notes.length ≤ 2000
  count : 0 ≤ σ.count
  notes : ∀ x ∈ σ.notes, WfN x σ.count
  appr : ∀ p ∈ σ.appr, nameB p.1 = true ∧ nameB p.2 = true ∧ anyOpen p.1 σ.notes = false
theorem Wf.new : Wf newV := ⟨by simp [newV], by simp [newV], by simp [newV], by simp [newV]⟩
theorem name_sz {s : ByteArray} (h : nameB s = true) : 0 < s.size ∧ s.size ≤ 40 := by
  unfold nameB at h
  simp only [Bool.and_eq_true, decide_eq_true_eq] at h
  exact h.1
theorem text_sz {s : ByteArray} (h : textB s = true) : s.size ≤ 1000 := by
  unfold textB at h
  simp only [Bool.and_eq_true, decide_eq_true_eq] at h
  exact h.1
theorem WfN.more {x : Nt} {c d : Int} (h : WfN x c) (hd : c ≤ d) : WfN x d := ⟨h.shot, h.author, h.frame, h.text, h.reps, ⟨h.closed.1, by have := h.closed.2; omega⟩, h.closer⟩
theorem anyOpen_false {shot : ByteArray} {l : List Nt} : anyOpen shot l = false ↔ ∀ x ∈ l, x.shot = shot → x.opn = false := by
  unfold anyOpen
  rw [Bool.eq_false_iff, ne_eq, List.any_eq_true]
  constructor
  · intro h x hx hs
    by_cases ho : x.opn = true
    · exact absurd ⟨x, hx, by simp [hs, ho]⟩ h
    · simpa using ho
  · rintro h ⟨x, hx, ho⟩
    simp only [Bool.and_eq_true, decide_eq_true_eq] at ho
    rw [h x hx ho.1] at ho
    exact absurd ho.2 (by simp)
theorem Wf.at {σ : Rv} (h : Wf σ) {n : Int} {author : ByteArray} (hn : ntE σ n author = 0) : 1 ≤ n ∧ n ≤ σ.notes.length ∧ ntI n < σ.notes.length ∧ nameB author = true ∧ ntA σ n ∈ σ.notes ∧ WfN (ntA σ n) σ.count := by
  unfold ntE at hn
  split at hn
  · cases hn
  · split at hn
    · cases hn
    · have h1 : ntI n < σ.notes.length := by unfold ntI; omega
      have h2 : ntA σ n ∈ σ.notes := by
        unfold ntA
        rw [List.getD_eq_getElem?_getD, List.getElem?_eq_getElem h1]
        exact List.getElem_mem h1
      exact ⟨by omega, by omega, h1, by simpa using ‹¬nameB author = false›, h2, h.notes _ h2⟩
theorem Wf.add {σ : Rv} {shot : ByteArray} {frame : Int} {author text : ByteArray} (h : Wf σ) (he : addE σ shot frame author text = 0) : Wf (addS σ shot frame author text) := by
  unfold addE at he
  split at he; · cases he
  split at he; · cases he
  split at he; · cases he
  split at he; · cases he
  rename_i h1 h2 h3 h4
  have n1 : nameB shot = true := by simpa using fun e => h1 (.inl e)
  have n2 : nameB author = true := by simpa using fun e => h1 (.inr e)
  have n3 : textB text = true := by simpa using fun e => h3 (.inr e)
  refine ⟨by simp only [addS, List.length_append, List.length_singleton]; omega, h.count, fun x hx => ?_, fun p hp => ?_⟩
  · rcases List.mem_append.1 hx with hx | hx
    · exact h.notes x hx
    · obtain rfl := List.mem_singleton.1 hx
      exact ⟨n1, n2, ⟨by show 0 ≤ frame; omega, by show frame ≤ 16777216; omega⟩, ⟨fun e => h3 (.inl e), n3⟩, ⟨by simp, by simp⟩, ⟨Int.le_refl _, h.count⟩, .inl ⟨rfl, rfl⟩⟩
  · obtain ⟨hp, hne⟩ := delA_mem.1 hp
    obtain ⟨a1, a2, a3⟩ := h.appr p hp
    refine ⟨a1, a2, ?_⟩
    rw [anyOpen_false] at a3 ⊢
    intro x hx hs
    rcases List.mem_append.1 hx with hx | hx
    · exact a3 x hx hs
    · obtain rfl := List.mem_singleton.1 hx
      exact absurd hs.symm hne
theorem mem_set {α : Type} {l : List α} {i : Nat} {x y : α} (h : y ∈ l.set i x) : y = x ∨ y ∈ l := by
  rcases List.mem_or_eq_of_mem_set h with h | h
  · exact .inr h
  · exact .inl h
theorem anyOpen_set {l : List Nt} {i : Nat} {x : Nt} {shot : ByteArray} (h : anyOpen shot l = false) (hx : x.shot = shot → x.opn = false) : anyOpen shot (l.set i x) = false := by
  rw [anyOpen_false] at h ⊢
  intro y hy hs
  rcases mem_set hy with rfl | hy
  · exact hx hs
  · exact h y hy hs
theorem Wf.reply {σ : Rv} {n : Int} {author text : ByteArray} (h : Wf σ) (he : replyE σ n author text = 0) : Wf (replyS σ n author text) := by
  unfold replyE at he
  split at he; · exact absurd he ‹_›
  rename_i h0
  obtain ⟨i1, i2, i3, i4, i5, i6⟩ := h.at (by simpa using h0)
  split at he; · cases he
  split at he; · cases he
  split at he; · cases he
  rename_i h1 h2 h3
  have n3 : textB text = true := by simpa using fun e => h1 (.inr e)
  refine ⟨by simp only [replyS, modN, List.length_set]; exact h.len, h.count, fun x hx => ?_, fun p hp => ?_⟩
  · rcases mem_set hx with rfl | hx
    · refine ⟨i6.shot, i6.author, i6.frame, i6.text, ⟨by simp only [List.length_append, List.length_singleton]; omega, fun y hy => ?_⟩, i6.closed, i6.closer⟩
      rcases List.mem_append.1 hy with hy | hy
      · exact i6.reps.2 y hy
      · obtain rfl := List.mem_singleton.1 hy
        exact ⟨i4, fun e => h1 (.inl e), n3⟩
    · exact h.notes x hx
  · obtain ⟨a1, a2, a3⟩ := h.appr p hp
    exact ⟨a1, a2, anyOpen_set a3 fun hs => (anyOpen_false.1 a3) (ntA σ n) i5 hs⟩
theorem Wf.close {σ : Rv} {n : Int} {author : ByteArray} (h : Wf σ) (he : closeE σ n author = 0) : Wf (closeS σ n author) := by
  unfold closeE at he
  split at he; · exact absurd he ‹_›
  rename_i h0
  obtain ⟨i1, i2, i3, i4, i5, i6⟩ := h.at (by simpa using h0)
  have hc := h.count
  refine ⟨by simp only [closeS, modN, List.length_set]; exact h.len, by show 0 ≤ σ.count + 1; omega, fun x hx => ?_, fun p hp => ?_⟩
  · rcases mem_set hx with rfl | hx
    · exact ⟨i6.shot, i6.author, i6.frame, i6.text, i6.reps, ⟨by show 0 ≤ σ.count + 1; omega, Int.le_refl _⟩, .inr ⟨by show 0 < σ.count + 1; omega, i4⟩⟩
    · exact (h.notes x hx).more (by show σ.count ≤ σ.count + 1; omega)
  · obtain ⟨a1, a2, a3⟩ := h.appr p hp
    exact ⟨a1, a2, anyOpen_set a3 fun _ => rfl⟩
theorem Wf.open {σ : Rv} {n : Int} {author : ByteArray} (h : Wf σ) (he : openE σ n author = 0) : Wf (openS σ n) := by
  unfold openE at he
  split at he; · exact absurd he ‹_›
  rename_i h0
  obtain ⟨i1, i2, i3, i4, i5, i6⟩ := h.at (by simpa using h0)
  refine ⟨by simp only [openS, modN, List.length_set]; exact h.len, h.count, fun x hx => ?_, fun p hp => ?_⟩
  · rcases mem_set hx with rfl | hx
    · exact ⟨i6.shot, i6.author, i6.frame, i6.text, i6.reps, i6.closed, i6.closer⟩
    · exact h.notes x hx
  · obtain ⟨hp, hne⟩ := delA_mem.1 hp
    obtain ⟨a1, a2, a3⟩ := h.appr p hp
    exact ⟨a1, a2, anyOpen_set a3 fun hs => absurd hs.symm hne⟩
theorem Wf.approve {σ : Rv} {shot author : ByteArray} (h : Wf σ) (he : apprE σ shot author = 0) : Wf (apprS σ shot author) := by
  unfold apprE at he
  split at he; · cases he
  split at he; · cases he
  rename_i h1 h2
  have n1 : nameB shot = true := by simpa using fun e => h1 (.inl e)
  have n2 : nameB author = true := by simpa using fun e => h1 (.inr e)
  refine ⟨h.len, h.count, h.notes, fun p hp => ?_⟩
  rcases List.mem_cons.1 hp with rfl | hp
  · refine ⟨n1, n2, ?_⟩
    show anyOpen shot σ.notes = false
    simpa using h2
  · exact h.appr p (delA_mem.1 hp).1
end Go.Proofs.YtilninaminaadaaGreatDoor
