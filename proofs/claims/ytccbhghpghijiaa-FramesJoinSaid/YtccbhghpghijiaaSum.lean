/- Sums by halves: num.Sum with its closure, and the reference's. -/
import Derived.Test.YtccbhghpghijiaaRel
import Derived.Laws.EntriesVeiled
namespace Go.Proofs.Ytccbhghpghijiaa
open Go.RowKit

/-- The sum by halves, behind Clean. -/
def sumC : Nat → List Nat → Nat
  | 0, _ => 0
  | f + 1, xs => if xs.length = 0 then 0 else if xs.length = 1 then canon (xs.getD 0 0) else fop .add (sumC f (xs.take (xs.length / 2))) (sumC f (xs.drop (xs.length / 2)))

/-- A call through a function value in a slot. -/
theorem run_go_callv {P : Program} {f : FuncId} {fn : Func} (hf : P.funcs[f]? = some fn) (hn : (fn.name == "runtime.NumGoroutine") = false) (hb : fn.body.isNone = false)
    (a : Act) (dst : Option Tmp) (t : Tmp) (cap : Array Value) (xs : Array Operand) (ats : Array TypeId) (ty : TypeId) (pos : String) (after : Array Edge) (guard : Option (Nat × Bool)) (w : World) (args : Array Value)
    (ht : a.tmps[t]?.getD undef = .func (.func f) #[] cap) (hx : xs.map a.eval ++ cap = args) :
    (execOp a.eval { dst, op := .call { callee := .value (.tmp t), args := xs, argTypes := ats }, type := ty, pos, after, guard }).run P w = .ok (.enter f args) w := by
  have h1 : fn.name ≠ "runtime.NumGoroutine" := by simpa using hn
  have h2 : ¬ fn.body = none := by intro e; rw [e] at hb; cases hb
  subst hx
  have ht' : a.eval (.tmp t) = .func (.func f) #[] cap := by simpa [Act.eval] using ht
  simp only [execOp, resolve, ht', Deferred.ofValue]
  simp [invoke, callFunc, hf, h1, h2]

/-- A single that is s behind Clean. -/
def FV (s : Nat) (v : Value) : Prop := ∃ b, v = .float .f32 b ∧ canon b = s

theorem sumC_two (f : Nat) (xs : List Nat) (h : 2 ≤ xs.length) : sumC (f + 1) xs = fop .add (sumC f (xs.take (xs.length / 2))) (sumC f (xs.drop (xs.length / 2))) := by
  rw [sumC, if_neg (by omega), if_neg (by omega)]
theorem sumC_one (f : Nat) (xs : List Nat) (h : xs.length = 1) : sumC (f + 1) xs = canon (xs.getD 0 0) := by
  rw [sumC, if_neg (by omega), if_pos h]

theorem rd_take {w : World} {b o : Nat} {xs : List Nat} (h : Rd w b o xs) (k : Nat) : Rd w b o (xs.take k) :=
  ⟨h.1, fun i hi => by
    rw [List.length_take] at hi
    rw [h.2 i (by omega)]
    simp [show i < k by omega]⟩
theorem rd_drop {w : World} {b o : Nat} {xs : List Nat} (h : Rd w b o xs) (k : Nat) : Rd w b (o + k) (xs.drop k) :=
  ⟨h.1, fun i hi => by
    rw [List.length_drop] at hi
    rw [Nat.add_assoc, h.2 (k + i) (by omega)]
    simp⟩

theorem canon_sumC (f : Nat) (xs : List Nat) : canon (sumC f xs) = sumC f xs := by
  cases f with
  | zero => show canon 0 = 0; decide
  | succ f =>
    unfold sumC
    split
    · decide
    · split
      · exact canon_idem _
      · exact canon_fop _ _ _

end Go.Proofs.Ytccbhghpghijiaa
