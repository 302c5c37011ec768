/- The text of a review, plain; a builder's long text. -/
import Derived.Test.YtilninaminaadaaGreatDoorRvS
import Derived.Test.YtilninaminaadaaGreatDoorTfA
namespace Go.Proofs.YtilninaminaadaaGreatDoor
open Go.RowKit

theorem bt_writeB (B : Nat) (l s : List UInt8) (S : ByteArray) (w : World) (hS : S = ofL s) (h : BT B l w) (hl : l.length + s.length ≤ 140737488355328) : Calls Tryz.prog 29 #[.pointer (some ⟨B, 0, none⟩), .string S] w fun e w' => (∃ n, e = .returned (.tuple #[.int .i64 n, .nilIface])) ∧ BT B (l ++ s) w' ∧ Below B w w' ∧ Apart B w w' := by
  subst hS
  refine (bld_writeX B B _ (ofL s) w h (by rw [Lib.byteCells_length, ofL_size]; omega) (Nat.le_of_lt h.lt)).mono ?_
  rintro e w' ⟨rfl, ⟨h2, hb⟩, ha⟩
  refine ⟨⟨_, rfl⟩, .inr ?_, hb, ha⟩
  rw [Lib.strCells_eq, ofL_list, ← Lib.byteCells_append] at h2
  exact h2

/-- A number's text. -/
def itB (n : Int) : ByteArray := ofL (Lib.itoa n)
theorem itB_size (n : Int) (h0 : 0 ≤ n) (h1 : n ≤ 16777216) : (itB n).size ≤ 21 := by
  unfold itB; rw [ofL_size]; exact Lib.itoa_length_le n (by omega) (by omega)
theorem itB_call (n : Int) (h0 : 0 ≤ n) (h1 : n ≤ 16777216) (w : World) (E : EnvT w) : Calls Tryz.prog 30 #[.int .i64 n] w fun e w' => e = .returned (.string (itB n)) ∧ Below w.heap.size w w' := by
  refine (Tryz.strconv_Itoa n (by omega) (by omega) w E.tab).mono ?_
  rintro e w' ⟨rfl, k, os, rfl⟩
  exact ⟨rfl, Lib.below_grow _ _ (Nat.le_refl _) _ _⟩
def stB (o : Bool) : ByteArray := if o then ⟨#[111, 112, 101, 110]⟩ else ⟨#[99, 108, 111, 115, 101, 100]⟩
theorem stB_size (o : Bool) : (stB o).size ≤ 6 := by cases o <;> decide
def noteB (k : Nat) (x : Nt) : ByteArray := (⟨#[110, 111, 116, 101, 32]⟩ : ByteArray) ++ itB ((k : Int) + 1) ++ (⟨#[32]⟩ : ByteArray) ++ x.shot ++ (⟨#[32]⟩ : ByteArray) ++ itB x.frame ++ (⟨#[32]⟩ : ByteArray) ++ x.author ++ (⟨#[32]⟩ : ByteArray) ++ stB x.opn ++ (⟨#[58, 32]⟩ : ByteArray) ++ x.text ++ (⟨#[10]⟩ : ByteArray)
def replyB (y : Rp) : ByteArray := (⟨#[114, 101, 112, 108, 121, 32]⟩ : ByteArray) ++ y.author ++ (⟨#[58, 32]⟩ : ByteArray) ++ y.text ++ (⟨#[10]⟩ : ByteArray)
def apprB (p : ByteArray × ByteArray) : ByteArray := (⟨#[97, 112, 112, 114, 111, 118, 101, 100, 32]⟩ : ByteArray) ++ p.1 ++ (⟨#[32]⟩ : ByteArray) ++ p.2 ++ (⟨#[10]⟩ : ByteArray)
def toL (b : ByteArray) : List UInt8 := b.data.toList
theorem toL_len (b : ByteArray) : (toL b).length = b.size := by rw [Lib.size_eq]; rfl
theorem ofL_toL (b : ByteArray) : b = ofL (toL b) := ofL_of rfl
def repsT (l : List Rp) (k : Nat) : List UInt8 := (List.range k).flatMap fun i => toL (replyB (rAt l i))
theorem repsT_succ (l : List Rp) (k : Nat) : repsT l (k + 1) = repsT l k ++ toL (replyB (rAt l k)) := by
  unfold repsT; rw [List.range_succ, List.flatMap_append]; simp
def noteT (k : Nat) (x : Nt) : List UInt8 := toL (noteB k x) ++ repsT x.reps x.reps.length
def notesT (L : List Nt) (k : Nat) : List UInt8 := (List.range k).flatMap fun i => noteT i (nAt L i)
theorem notesT_succ (L : List Nt) (k : Nat) : notesT L (k + 1) = notesT L k ++ noteT k (nAt L k) := by
  unfold notesT; rw [List.range_succ, List.flatMap_append]; simp
theorem lit_sz5 : (⟨#[110, 111, 116, 101, 32]⟩ : ByteArray).size = 5 := rfl
theorem lit_sz1 : (⟨#[32]⟩ : ByteArray).size = 1 := rfl
theorem lit_szn : (⟨#[10]⟩ : ByteArray).size = 1 := rfl
theorem lit_szc : (⟨#[58, 32]⟩ : ByteArray).size = 2 := rfl
theorem lit_sz6 : (⟨#[114, 101, 112, 108, 121, 32]⟩ : ByteArray).size = 6 := rfl
theorem lit_sz9 : (⟨#[97, 112, 112, 114, 111, 118, 101, 100, 32]⟩ : ByteArray).size = 9 := rfl
theorem noteB_size {k : Nat} {x : Nt} {c : Int} (hk : k ≤ 2000) (h : WfN x c) : (noteB k x).size ≤ 1200 := by
  have h1 := (name_sz h.shot).2
  have h2 := (name_sz h.author).2
  have h3 := text_sz h.text.2
  have h4 := itB_size ((k : Int) + 1) (by omega) (by omega)
  have h5 := itB_size x.frame h.frame.1 h.frame.2
  have h6 := stB_size x.opn
  unfold noteB
  simp only [ByteArray.size_append, lit_sz5, lit_sz1, lit_szn, lit_szc]
  omega
theorem rAt_mem {L : List Rp} {k : Nat} (h : k < L.length) : rAt L k ∈ L := by
  unfold rAt
  rw [List.getD_eq_getElem?_getD, List.getElem?_eq_getElem h]
  exact List.getElem_mem h
theorem replyB_size {y : Rp} (h1 : nameB y.author = true) (h2 : textB y.text = true) : (replyB y).size ≤ 1100 := by
  have := (name_sz h1).2
  have := text_sz h2
  unfold replyB
  simp only [ByteArray.size_append, lit_sz6, lit_szn, lit_szc]
  omega
theorem repsT_len {x : Nt} {c : Int} (h : WfN x c) : ∀ k, k ≤ x.reps.length → (repsT x.reps k).length ≤ 1100 * k := by
  intro k
  induction k with
  | zero => intro _; simp [repsT]
  | succ k ih =>
    intro hk
    have h1 := ih (by omega)
    have h2 := h.reps.2 _ (rAt_mem (show k < x.reps.length by omega))
    have h3 := replyB_size h2.1 h2.2.2
    rw [repsT_succ, List.length_append, toL_len]
    omega
theorem notesT_len {σ : Rv} (wf : Wf σ) : ∀ k, k ≤ σ.notes.length → (notesT σ.notes k).length ≤ 112000 * k := by
  intro k
  induction k with
  | zero => intro _; simp [notesT]
  | succ k ih =>
    intro hk
    have h1 := ih (by omega)
    have hl := wf.len
    have hw := wf.notes _ (nAt_mem (show k < σ.notes.length by omega))
    have h2 := noteB_size (show k ≤ 2000 by omega) hw
    have h3 := repsT_len hw _ (Nat.le_refl _)
    have h4 := hw.reps.1
    rw [notesT_succ, List.length_append]
    unfold noteT
    rw [List.length_append, toL_len]
    omega
theorem run_catB {P : Program} {o : Oper} {a : Act} {w : World} {T1 T2 : TypeId} {s1 s2 : Operand} {x y : ByteArray} (ho : o.op = .binOp .add T1 s1 s2 T2) (h1 : a.eval s1 = .string x) (h2 : a.eval s2 = .string y) (hs : x.size + y.size ≤ 1000000000000) : (execOp a.eval o).run P w = .ok (.value (.string (x ++ y))) w := by
  obtain ⟨d, op, ty, ps, af, gd⟩ := o
  simp only at ho
  subst ho
  have hc : ¬ ((x.size + y.size : Nat) : Int) > IntKind.i64.max := by
    have : IntKind.i64.max = 9223372036854775807 := by decide
    rw [this]; omega
  have e : (Op.stringOp .add x y).run P w = .ok (.string (x ++ y)) w := by
    unfold Op.stringOp
    simp only [if_neg hc]
    rfl
  have e0 : ∀ u : World, Sem.run P (if (!false) = true then (pure () : Sem Unit) else pure ()) u = .ok () u := fun _ => rfl
  simp [execOp, h1, h2]
  simp only [eqGuard, binOp]
  rw [e0]
  simp only [Result.andThen]
  rw [e]
end Go.Proofs.YtilninaminaadaaGreatDoor
