/- A review in memory: the program's, the reference's. -/
import Derived.Test.YtilninaminaadaaGreatDoorRvP
namespace Go.Proofs.YtilninaminaadaaGreatDoor
open Go.RowKit

def nAt (L : List Nt) (k : Nat) : Nt := L.getD k default
theorem nAt_mem {L : List Nt} {k : Nat} (h : k < L.length) : nAt L k ∈ L := by
  unfold nAt
  rw [List.getD_eq_getElem?_getD, List.getElem?_eq_getElem h]
  exact List.getElem_mem h
theorem nAt_set {L : List Nt} {i k : Nat} {x : Nt} (hi : i < L.length) : nAt (L.set i x) k = if k = i then x else nAt L k := by
  unfold nAt
  rw [List.getD_eq_getElem?_getD, List.getD_eq_getElem?_getD]
  by_cases h : k = i
  · subst h
    rw [List.getElem?_set_self hi, if_pos rfl]; rfl
  · rw [List.getElem?_set_ne (Ne.symm h), if_neg h]
theorem nAt_snoc {L : List Nt} {k : Nat} {x : Nt} : nAt (L ++ [x]) k = if k < L.length then nAt L k else if k = L.length then x else default := by
  unfold nAt
  rw [List.getD_eq_getElem?_getD, List.getD_eq_getElem?_getD]
  by_cases h : k < L.length
  · rw [List.getElem?_append_left h, if_pos h]
  · rw [if_neg h, List.getElem?_append_right (by omega)]
    by_cases h2 : k = L.length
    · subst h2; simp
    · rw [if_neg h2, List.getElem?_eq_none (by simp; omega)]; rfl
def rAt (L : List Rp) (k : Nat) : Rp := L.getD k default
/-- Cell j of the program's note k; of the reference's; of a reply. -/
def ncell (L : List Nt) (rv : Nat → Value) (k j : Nat) : Value :=
  match j with
  | 0 => .int .i64 ((k : Int) + 1)
  | 1 => .string (nAt L k).shot
  | 2 => .int .i64 (nAt L k).frame
  | 3 => .string (nAt L k).author
  | 4 => .string (nAt L k).text
  | 5 => .bool (nAt L k).opn
  | 6 => rv k
  | 7 => .string (nAt L k).closer
  | _ => .int .i64 (nAt L k).closed
def rcell (L : List Rp) (k j : Nat) : Value :=
  match j with
  | 0 => .string (rAt L k).author
  | _ => .string (rAt L k).text

/-- The program's review σ lies at block p, within the footprint F. -/
structure VO (w : World) (p : Nat) (σ : Rv) (F : Nat → Prop) (vn : Value) (m : Nat) (rv : Nat → Value) : Prop where
  bx : Bx w p 47 #[vn, .map (some m), .int .i64 σ.count]
  row : RowN w 67 9 vn σ.notes.length (ncell σ.notes rv)
  reps : ∀ k, k < σ.notes.length → RowN w 74 2 (rv k) (nAt σ.notes k).reps.length (rcell (nAt σ.notes k).reps)
  apart : ∀ j k, j < σ.notes.length → k < σ.notes.length → j ≠ k → ∀ b, (rv j).ownBlock = some b → (rv k).ownBlock ≠ some b
  map : MapT w m σ.appr
  fp : F p
  fm : F m
  fv : ∀ b, vn.ownBlock = some b → F b
  fr : ∀ k, k < σ.notes.length → ∀ b, (rv k).ownBlock = some b → F b
  flt : ∀ b, F b → b < w.heap.size
theorem VO.lift {w w' : World} {p : Nat} {σ : Rv} {F : Nat → Prop} {vn : Value} {m : Nat} {rv : Nat → Value} (h : VO w p σ F vn m rv) (hs : w.heap.size ≤ w'.heap.size) (hk : ∀ b, F b → w'.heap[b]? = w.heap[b]?) : VO w' p σ F vn m rv :=
  ⟨(hk p h.fp).trans h.bx, h.row.lift fun g hg _ => hk g (h.fv g hg), fun k hk' => (h.reps k hk').lift fun g hg _ => hk g (h.fr k hk' g hg), h.apart, h.map.lift (hk m h.fm), h.fp, h.fm, h.fv, h.fr, fun b hb => Nat.lt_of_lt_of_le (h.flt b hb) hs⟩
theorem VO.keep {w w' : World} {p : Nat} {σ : Rv} {F : Nat → Prop} {vn : Value} {m : Nat} {rv : Nat → Value} (h : VO w p σ F vn m rv) (hb : Below w.heap.size w w') : VO w' p σ F vn m rv :=
  h.lift hb.size fun b hF => hb.block b (h.flt b hF)
/-- What a call of one of its methods leaves. -/
def VGo (w : World) (p : Nat) (σ : Rv) (F : Nat → Prop) (w' : World) : Prop := ∃ F' vn m rv, VO w' p σ F' vn m rv ∧ Fr F w w' ∧ ∀ b, F' b → F b ∨ w.heap.size ≤ b
theorem VO.ne_pm {w : World} {p : Nat} {σ : Rv} {F : Nat → Prop} {vn : Value} {m : Nat} {rv : Nat → Value} (h : VO w p σ F vn m rv) : p ≠ m := by
  rintro rfl
  obtain ⟨es, clock, e⟩ := h.map.ismap
  have := h.bx
  unfold Bx at this
  rw [e] at this
  cases this
theorem VO.ne_vp {w : World} {p : Nat} {σ : Rv} {F : Nat → Prop} {vn : Value} {m : Nat} {rv : Nat → Value} (h : VO w p σ F vn m rv) : ∀ g, vn.ownBlock = some g → g ≠ p ∧ g ≠ m := by
  intro g hg
  obtain ⟨cur, hc⟩ := h.row.typed g hg
  refine ⟨types_ne hc h.bx (by decide), ?_⟩
  rintro rfl
  obtain ⟨es, clock, e⟩ := h.map.ismap
  rw [e] at hc
  cases hc
theorem VO.ne_r {w : World} {p : Nat} {σ : Rv} {F : Nat → Prop} {vn : Value} {m : Nat} {rv : Nat → Value} (h : VO w p σ F vn m rv) : ∀ k, k < σ.notes.length → ∀ g, (rv k).ownBlock = some g → g ≠ p ∧ g ≠ m ∧ vn.ownBlock ≠ some g := by
  intro k hk g hg
  obtain ⟨cur, hc⟩ := (h.reps k hk).typed g hg
  refine ⟨types_ne hc h.bx (by decide), ?_, ?_⟩
  · rintro rfl
    obtain ⟨es, clock, e⟩ := h.map.ismap
    rw [e] at hc
    cases hc
  · intro hv
    obtain ⟨cur', hc'⟩ := h.row.typed g hv
    exact types_ne hc hc' (by decide) rfl

/-- The reference's review σ lies at block p, within the footprint F. -/
def mcell (L : List Nt) (rv : Nat → Value) (k j : Nat) : Value := ncell L rv k j
structure RO (w : World) (p : Nat) (σ : Rv) (F : Nat → Prop) (vn vb va : Value) (m : Nat) (rv : Nat → Value) : Prop where
  bx : Bx w p 51 #[vn, vb, va, .map (some m), .int .i64 σ.count]
  row : RowN w 65 7 vn σ.notes.length (mcell σ.notes rv)
  by_ : RowN w 9 1 vb σ.notes.length (fun k _ => .string (nAt σ.notes k).closer)
  at_ : RowN w 3 1 va σ.notes.length (fun k _ => .int .i64 (nAt σ.notes k).closed)
  reps : ∀ k, k < σ.notes.length → RowN w 74 2 (rv k) (nAt σ.notes k).reps.length (rcell (nAt σ.notes k).reps)
  map : MapT w m σ.appr
  fp : F p
  fm : F m
  fv : ∀ b, vn.ownBlock = some b → F b
  fb : ∀ b, vb.ownBlock = some b → F b
  fa : ∀ b, va.ownBlock = some b → F b
  fr : ∀ k, k < σ.notes.length → ∀ b, (rv k).ownBlock = some b → F b
  flt : ∀ b, F b → b < w.heap.size
theorem RO.lift {w w' : World} {p : Nat} {σ : Rv} {F : Nat → Prop} {vn vb va : Value} {m : Nat} {rv : Nat → Value} (h : RO w p σ F vn vb va m rv) (hs : w.heap.size ≤ w'.heap.size) (hk : ∀ b, F b → w'.heap[b]? = w.heap[b]?) : RO w' p σ F vn vb va m rv :=
  ⟨(hk p h.fp).trans h.bx, h.row.lift fun g hg _ => hk g (h.fv g hg), h.by_.lift fun g hg _ => hk g (h.fb g hg), h.at_.lift fun g hg _ => hk g (h.fa g hg), fun k hk' => (h.reps k hk').lift fun g hg _ => hk g (h.fr k hk' g hg), h.map.lift (hk m h.fm), h.fp, h.fm, h.fv, h.fb, h.fa, h.fr, fun b hb => Nat.lt_of_lt_of_le (h.flt b hb) hs⟩
theorem RO.keep {w w' : World} {p : Nat} {σ : Rv} {F : Nat → Prop} {vn vb va : Value} {m : Nat} {rv : Nat → Value} (h : RO w p σ F vn vb va m rv) (hb : Below w.heap.size w w') : RO w' p σ F vn vb va m rv :=
  h.lift hb.size fun b hF => hb.block b (h.flt b hF)
def RGo (w : World) (p : Nat) (σ : Rv) (F : Nat → Prop) (w' : World) : Prop := ∃ F' vn vb va m rv, RO w' p σ F' vn vb va m rv ∧ Fr F w w' ∧ ∀ b, F' b → F b ∨ w.heap.size ≤ b
theorem RO.nes {w : World} {p : Nat} {σ : Rv} {F : Nat → Prop} {vn vb va : Value} {m : Nat} {rv : Nat → Value} (h : RO w p σ F vn vb va m rv) : p ≠ m ∧
    (∀ g, vn.ownBlock = some g → g ≠ p ∧ g ≠ m ∧ vb.ownBlock ≠ some g ∧ va.ownBlock ≠ some g) ∧ (∀ g, vb.ownBlock = some g → g ≠ p ∧ g ≠ m ∧ vn.ownBlock ≠ some g ∧ va.ownBlock ≠ some g) ∧
    (∀ g, va.ownBlock = some g → g ≠ p ∧ g ≠ m ∧ vn.ownBlock ≠ some g ∧ vb.ownBlock ≠ some g) ∧
    (∀ k, k < σ.notes.length → ∀ g, (rv k).ownBlock = some g → g ≠ p ∧ g ≠ m ∧ vn.ownBlock ≠ some g ∧ vb.ownBlock ≠ some g ∧ va.ownBlock ≠ some g) := by
  obtain ⟨es, clock, e⟩ := h.map.ismap
  have hm : ∀ {b : Nat} {cs : Array Value} {T : TypeId}, w.heap[b]? = some (.cells cs T (0, 0)) → b ≠ m := by
    rintro b cs T hb rfl
    rw [e] at hb; cases hb
  refine ⟨hm h.bx, fun g hg => ?_, fun g hg => ?_, fun g hg => ?_, fun k hk g hg => ?_⟩
  · obtain ⟨cur, hc⟩ := h.row.typed g hg
    refine ⟨types_ne hc h.bx (by decide), hm hc, fun hv => ?_, fun hv => ?_⟩
    · obtain ⟨cur', hc'⟩ := h.by_.typed g hv
      exact types_ne hc hc' (by decide) rfl
    · obtain ⟨cur', hc'⟩ := h.at_.typed g hv
      exact types_ne hc hc' (by decide) rfl
  · obtain ⟨cur, hc⟩ := h.by_.typed g hg
    refine ⟨types_ne hc h.bx (by decide), hm hc, fun hv => ?_, fun hv => ?_⟩
    · obtain ⟨cur', hc'⟩ := h.row.typed g hv
      exact types_ne hc hc' (by decide) rfl
    · obtain ⟨cur', hc'⟩ := h.at_.typed g hv
      exact types_ne hc hc' (by decide) rfl
  · obtain ⟨cur, hc⟩ := h.at_.typed g hg
    refine ⟨types_ne hc h.bx (by decide), hm hc, fun hv => ?_, fun hv => ?_⟩
    · obtain ⟨cur', hc'⟩ := h.row.typed g hv
      exact types_ne hc hc' (by decide) rfl
    · obtain ⟨cur', hc'⟩ := h.by_.typed g hv
      exact types_ne hc hc' (by decide) rfl
  · obtain ⟨cur, hc⟩ := (h.reps k hk).typed g hg
    refine ⟨types_ne hc h.bx (by decide), hm hc, fun hv => ?_, fun hv => ?_, fun hv => ?_⟩
    · obtain ⟨cur', hc'⟩ := h.row.typed g hv
      exact types_ne hc hc' (by decide) rfl
    · obtain ⟨cur', hc'⟩ := h.by_.typed g hv
      exact types_ne hc hc' (by decide) rfl
    · obtain ⟨cur', hc'⟩ := h.at_.typed g hv
      exact types_ne hc hc' (by decide) rfl
end Go.Proofs.YtilninaminaadaaGreatDoor
