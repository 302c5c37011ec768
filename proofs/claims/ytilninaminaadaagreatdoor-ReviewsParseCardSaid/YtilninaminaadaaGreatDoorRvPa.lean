/- A note opened or closed by a line; what the lines say. -/
import Derived.Test.YtilninaminaadaaGreatDoorRvNb
import Derived.Test.YtilninaminaadaaGreatDoorRvU
namespace Go.Proofs.YtilninaminaadaaGreatDoor
open Go.RowKit

def opnS (σ : Rv) (k : Nat) (o : Bool) : Rv := ⟨σ.notes.set k { nAt σ.notes k with opn := o }, σ.appr, σ.count⟩
theorem opnS_len (σ : Rv) (k : Nat) (o : Bool) : (opnS σ k o).notes.length = σ.notes.length := List.length_set
theorem VO.opn {w : World} {p : Nat} {σ : Rv} {F : Nat → Prop} {g cap m n : Nat} {rv : Nat → Value} {k : Nat} (h : VO w p σ F (.slice (some ⟨g, 0, none⟩) n cap) m rv) (hk : k < σ.notes.length) (o : Bool) :
    VO (w.setCell ⟨g, k * 9 + 5, none⟩ (.bool o)) p (opnS σ k o) F (.slice (some ⟨g, 0, none⟩) n cap) m rv := by
  have on : Only g w (w.setCell ⟨g, k * 9 + 5, none⟩ (.bool o)) := (Only.refl g w).set _ _
  have hvp := h.ne_vp g rfl
  obtain rfl : n = σ.notes.length := by
    obtain ⟨a, c, e, _⟩ := h.row.form
    cases e; rfl
  have hset := h.row.set k 5 hk (by omega) (.bool o)
  generalize w.setCell ⟨g, k * 9 + 5, none⟩ (.bool o) = w' at *
  have hrv : (fun i => if i = k then rv k else rv i) = rv := by
    funext i
    by_cases e : i = k
    · rw [if_pos e, e]
    · rw [if_neg e]
  refine ⟨on.bx (Ne.symm hvp.1) h.bx, ?_, fun i hi => ?_, fun i j hi hj => ?_, h.map.lift (on.block m (Ne.symm hvp.2)), h.fp, h.fm, h.fv, fun i hi => ?_, fun b hb => ?_⟩
  · rw [opnS_len]
    refine hset.congr fun k' j h1 h2 => ?_
    have e := ncell_set (rv := rv) (r := rv k) (x := { nAt σ.notes k with opn := o }) hk k' j
    rw [hrv] at e
    show ncell (σ.notes.set k _) rv k' j = _
    rw [e]
    by_cases hkk : k' = k
    · subst hkk
      rcases (by omega : j = 0 ∨ j = 1 ∨ j = 2 ∨ j = 3 ∨ j = 4 ∨ j = 5 ∨ j = 6 ∨ j = 7 ∨ j = 8) with rfl | rfl | rfl | rfl | rfl | rfl | rfl | rfl | rfl <;> simp [ncell]
    · rw [if_neg hkk, if_neg (by omega)]
  · rw [opnS_len] at hi
    have hq := on.rowN (h.reps i hi) (fun b e he => (h.ne_r i hi b e).2.2 (by rw [he]; rfl))
    have e : (nAt (opnS σ k o).notes i).reps = (nAt σ.notes i).reps := by
      show (nAt (σ.notes.set k _) i).reps = _
      rw [nAt_set hk]
      by_cases e : i = k
      · rw [if_pos e, e]
      · rw [if_neg e]
    rw [e]
    exact hq
  · rw [opnS_len] at hi hj
    exact h.apart i j hi hj
  · rw [opnS_len] at hi
    exact h.fr i hi
  · rw [on.size]; exact h.flt b hb
theorem VO.opn_fr {w : World} {p : Nat} {σ : Rv} {F : Nat → Prop} {g cap m n : Nat} {rv : Nat → Value} {k : Nat} (h : VO w p σ F (.slice (some ⟨g, 0, none⟩) n cap) m rv) (o : Bool) : Fr F w (w.setCell ⟨g, k * 9 + 5, none⟩ (.bool o)) :=
  (Fr.refl F w).set _ fun _ => h.fv g rfl
theorem Wf.opnS {σ : Rv} (h : Wf σ) (ha : σ.appr = []) {k : Nat} (hk : k < σ.notes.length) (o : Bool) : Wf (opnS σ k o) := by
  refine ⟨by rw [opnS_len]; exact h.len, h.count, fun x hx => ?_, fun p hp => ?_⟩
  · rcases mem_set hx with rfl | hx
    · have w := h.notes _ (nAt_mem hk)
      exact ⟨w.shot, w.author, w.frame, w.text, w.reps, w.closed, w.closer⟩
    · exact h.notes x hx
  · have hp : p ∈ σ.appr := hp
    rw [ha] at hp; cases hp
theorem opnS_back {σ : Rv} {k : Nat} (hk : k < σ.notes.length) (o : Bool) : Proofs.YtilninaminaadaaGreatDoor.opnS (Proofs.YtilninaminaadaaGreatDoor.opnS σ k o) k (nAt σ.notes k).opn = σ := by
  unfold Proofs.YtilninaminaadaaGreatDoor.opnS
  dsimp only
  rw [nAt_set hk, if_pos rfl, List.set_set]
  have e : σ.notes.set k { nAt σ.notes k with opn := (nAt σ.notes k).opn } = σ.notes := by
    apply List.ext_getElem
    · simp
    · intro i h1 h2
      rw [List.getElem_set]
      split
      · rename_i e; subst e
        unfold nAt
        rw [List.getD_eq_getElem?_getD, List.getElem?_eq_getElem hk]; rfl
      · rfl
  show Rv.mk (σ.notes.set k { nAt σ.notes k with opn := (nAt σ.notes k).opn }) σ.appr σ.count = σ
  rw [e]
theorem VGo.trans {W w1 w2 : World} {p : Nat} {σ σ' : Rv} {F : Nat → Prop} (h : VGo W p σ F w1) (h2 : ∀ F' vn m rv, VO w1 p σ F' vn m rv → VGo w1 p σ' F' w2) : VGo W p σ' F w2 := by
  obtain ⟨F', vn, m, rv, g1, g2, g3⟩ := h
  obtain ⟨F2, vn2, m2, rv2, k1, k2, k3⟩ := h2 _ _ _ _ g1
  refine ⟨F2, vn2, m2, rv2, k1, g2.trans k2 g3, fun b hb => ?_⟩
  rcases k3 b hb with e | e
  · exact g3 b e
  · exact .inr (Nat.le_trans g2.size e)

def wOpen : ByteArray := ⟨#[111, 112, 101, 110]⟩
def wClosed : ByteArray := ⟨#[99, 108, 111, 115, 101, 100]⟩
/-- A line of a note; none: it is no such line. -/
def noteO (σ : Rv) (w1 w2 w3 w4 w5 text : ByteArray) : Option Rv :=
  match numI w1, numI w3 with
  | some a, some b => if a ≠ (σ.notes.length : Int) + 1 ∨ (w5 ≠ wOpen ∧ w5 ≠ wClosed) then none else if addE σ w2 b w4 text ≠ 0 then none else some (opnS (addS σ w2 b w4 text) σ.notes.length (decide (w5 = wOpen)))
  | _, _ => none
/-- A line of a reply. -/
def replyO (σ : Rv) (author text : ByteArray) : Option Rv :=
  if σ.notes.length = 0 then none else if replyE (opnS σ (σ.notes.length - 1) true) σ.notes.length author text ≠ 0 then none else some (opnS (replyS (opnS σ (σ.notes.length - 1) true) σ.notes.length author text) (σ.notes.length - 1) (nAt σ.notes (σ.notes.length - 1)).opn)
theorem replyO_eq {σ : Rv} {k : Nat} (hk : σ.notes.length = k + 1) (author text : ByteArray) : replyO σ author text = if replyE (opnS σ k true) ((k : Int) + 1) author text ≠ 0 then none else some (opnS (replyS (opnS σ k true) ((k : Int) + 1) author text) k (nAt σ.notes k).opn) := by
  unfold replyO
  rw [hk, if_neg (by omega), Nat.add_sub_cancel]
  rfl
end Go.Proofs.YtilninaminaadaaGreatDoor
