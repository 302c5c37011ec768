/- Edit lists: their errors, plain; dyeref1.end and dyeref1.EditsError. (printed by gen_evt.py) -/
import Derived.Test.YtemlabmmafcapaaGreatDoorNam
import Derived.Test.YtemlabmmafcapaaGreatDoorRat
namespace Go.Proofs.YtemlabmmafcapaaGreatDoor
open Go.RowKit

structure Ev where
  reel : ByteArray
  kind : Int
  len : Int
  inn : Int
  out : Int
  pos : Int
instance : Inhabited Ev := ⟨⟨⟨#[]⟩, 0, 0, 0, 0, 0⟩⟩
def Ev.val (e : Ev) : Value := .agg #[.string e.reel, .int .i64 e.kind, .int .i64 e.len, .int .i64 e.inn, .int .i64 e.out, .int .i64 e.pos]
def Ev.stop (e : Ev) : Int := e.pos + e.out - e.inn
def evErr (nm : Bool) (kind len inn out pos bf : Int) (k : Nat) : Int :=
  if nm = false then 6 else if kind ≠ 1 ∧ kind ≠ 2 then 1 else if inn < 0 ∨ out ≤ inn ∨ 16777216 < out ∨ 16777216 < pos ∨ pos < 0 then 3
  else if pos < bf then 8 else if (kind = 1 ∧ len ≠ 0) ∨ (kind = 2 ∧ (len < 1 ∨ out - inn < len ∨ 250 < len ∨ k = 0 ∨ pos ≠ bf)) then 12 else 0
def befE (es : List Ev) (k : Nat) : Int := if k = 0 then 0 else (es.getD (k - 1) default).stop
def errAt (es : List Ev) (k : Nat) : Int := let e := es.getD k default; evErr (nameB e.reel) e.kind e.len e.inn e.out e.pos (befE es k) k
def evsTo (es : List Ev) : Nat → Int
  | 0 => 0
  | k + 1 => if evsTo es k ≠ 0 then evsTo es k else errAt es k
def editsErr (title : ByteArray) (rate : Int) (es : List Ev) : Int := if nameB title = false then 6 else if rateB rate = false then 1 else if 500 < es.length then 4 else evsTo es es.length
theorem evsTo_stay (es : List Ev) (k : Nat) (e : Int) (he : e ≠ 0) (h : evsTo es k = e) : ∀ m, k ≤ m → evsTo es m = e := by
  intro m hm
  induction m with
  | zero => rw [show 0 = k by omega]; exact h
  | succ m ih =>
    rcases Nat.lt_or_ge m k with hk | hk
    · rw [show m + 1 = k by omega]; exact h
    · rw [evsTo, ih hk, if_pos he]
theorem evsTo_zero (es : List Ev) (k : Nat) (h : evsTo es k = 0) : ∀ j, j < k → errAt es j = 0 := by
  induction k with
  | zero => intro j hj; omega
  | succ k ih =>
    intro j hj
    rw [evsTo] at h
    by_cases h0 : evsTo es k = 0
    · rw [if_neg (by simpa using h0)] at h
      rcases Nat.lt_or_eq_of_le (Nat.le_of_lt_succ hj) with h2 | rfl
      · exact ih h0 j h2
      · exact h
    · rw [if_pos h0] at h; exact absurd h h0
theorem evErr_zero {nm : Bool} {kind len inn out pos bf : Int} {k : Nat} (h : evErr nm kind len inn out pos bf k = 0) : nm = true ∧ (kind = 1 ∨ kind = 2) ∧ 0 ≤ inn ∧ inn < out ∧ out ≤ 16777216 ∧ 0 ≤ pos ∧ pos ≤ 16777216 ∧ bf ≤ pos := by
  unfold evErr at h
  split at h; · cases h
  split at h; · cases h
  split at h; · cases h
  split at h; · cases h
  refine ⟨by simpa using ‹¬nm = false›, by omega, by omega, by omega, by omega, by omega, by omega, by omega⟩

/-- The event e lies from cell i of block b on. -/
def EvAt (w : World) (b i : Nat) (e : Ev) : Prop :=
  w.cell? ⟨b, i, none⟩ = some (.string e.reel) ∧ w.cell? ⟨b, i + 1, none⟩ = some (.int .i64 e.kind) ∧ w.cell? ⟨b, i + 2, none⟩ = some (.int .i64 e.len) ∧
  w.cell? ⟨b, i + 3, none⟩ = some (.int .i64 e.inn) ∧ w.cell? ⟨b, i + 4, none⟩ = some (.int .i64 e.out) ∧ w.cell? ⟨b, i + 5, none⟩ = some (.int .i64 e.pos)
/-- v reads as the events es. -/
def SlE (w : World) (v : Value) (es : List Ev) : Prop := ∃ a c, v = .slice a es.length c ∧ es.length ≤ maxLen ∧ (es = [] ∨ ∃ b o, a = some ⟨b, o, none⟩ ∧ b < w.heap.size ∧ ∀ k, k < es.length → EvAt w b (o + k * 6) (es.getD k default))
theorem EvAt.keep {w w' : World} {B b i : Nat} {e : Ev} (h : EvAt w b i e) (hb : Below B w w') (hlt : b < B) : EvAt w' b i e := by
  obtain ⟨q0, q1, q2, q3, q4, q5⟩ := h
  exact ⟨by rw [hb.cell (p := ⟨b, _, none⟩) hlt]; exact q0, by rw [hb.cell (p := ⟨b, _, none⟩) hlt]; exact q1, by rw [hb.cell (p := ⟨b, _, none⟩) hlt]; exact q2, by rw [hb.cell (p := ⟨b, _, none⟩) hlt]; exact q3, by rw [hb.cell (p := ⟨b, _, none⟩) hlt]; exact q4, by rw [hb.cell (p := ⟨b, _, none⟩) hlt]; exact q5⟩
theorem SlE.keep {w w' : World} {v : Value} {es : List Ev} (h : SlE w v es) (hb : Below w.heap.size w w') : SlE w' v es := by
  obtain ⟨a, c, h1, h2, h3⟩ := h
  refine ⟨a, c, h1, h2, ?_⟩
  rcases h3 with h3 | ⟨b, o, h4, h5, h6⟩
  · exact .inl h3
  · refine .inr ⟨b, o, h4, Nat.lt_of_lt_of_le h5 hb.size, fun k hk => ?_⟩
    obtain ⟨q0, q1, q2, q3, q4, q5⟩ := h6 k hk
    exact ⟨by rw [hb.cell (p := ⟨b, _, none⟩) h5]; exact q0, by rw [hb.cell (p := ⟨b, _, none⟩) h5]; exact q1, by rw [hb.cell (p := ⟨b, _, none⟩) h5]; exact q2, by rw [hb.cell (p := ⟨b, _, none⟩) h5]; exact q3, by rw [hb.cell (p := ⟨b, _, none⟩) h5]; exact q4, by rw [hb.cell (p := ⟨b, _, none⟩) h5]; exact q5⟩

end Go.Proofs.YtemlabmmafcapaaGreatDoor
