/- Comparing parts of a grade with what is neutral. (printed by gen_nue.py) -/
import Derived.Test.YticekgnmiaidjaaGreatDoorGnB
import Derived.Test.YticekgnmiaidjaaGreatDoorFfM
import Derived.Test.YticekgnmiaidjaaGreatDoorGdw
import Derived.Test.YticekgnmiaidjaaGreatDoorGnF
namespace Go.Proofs.YticekgnmiaidjaaGreatDoor

section
open Go.RowKit Go.Lib Ieee

end

section
open Go.RowKit Go.Lib

/-- The first error of grades. -/
def firstErr : List Gd → Int
  | [] => 0
  | g :: gs => if gradeErr g = 0 then firstErr gs else gradeErr g
theorem firstErr_hit : ∀ {gs : List Gd} {k : Nat} {g : Gd}, gs[k]? = some g → (∀ (j : Nat) (x : Gd), j < k → gs[j]? = some x → gradeErr x = 0) → gradeErr g ≠ 0 → firstErr gs = gradeErr g
  | [], k, g, h, _, _ => by simp at h
  | a :: gs, 0, g, h, _, he => by
    have : a = g := by simpa using h
    subst this
    unfold firstErr
    rw [if_neg he]
  | a :: gs, k + 1, g, h, hb, he => by
    unfold firstErr
    rw [if_pos (hb 0 a (by omega) rfl)]
    exact firstErr_hit (k := k) (by simpa using h) (fun j x hj hx => hb (j + 1) x (by omega) (by simpa using hx)) he
theorem firstErr_none : ∀ {gs : List Gd}, (∀ (j : Nat) (x : Gd), gs[j]? = some x → gradeErr x = 0) → firstErr gs = 0
  | [], _ => rfl
  | a :: gs, h => by
    unfold firstErr
    rw [if_pos (h 0 a rfl)]
    exact firstErr_none fun j x hx => h (j + 1) x (by simpa using hx)
theorem firstErr_zero : ∀ {gs : List Gd}, firstErr gs = 0 → ∀ g ∈ gs, gradeErr g = 0
  | [], _, g, hg => by cases hg
  | a :: gs, h, g, hg => by
    unfold firstErr at h
    by_cases ha : gradeErr a = 0
    · rw [if_pos ha] at h
      rcases List.mem_cons.1 hg with rfl | hg
      · exact ha
      · exact firstErr_zero h g hg
    · rw [if_neg ha] at h
      exact absurd h ha
def gradesErr (gs : List Gd) : Int := if 64 < gs.length then 4 else firstErr gs

/-- In a right grade of curves a curve has points in x where it has points in y. -/
theorem hasP_iff {g : Gd} (h : gradeErr g = 0) {c : Cv} (hc : c ∈ g.cvs) : hasP c = !decide (c.xs.length = 0) := by
  have := ((right_of h).cvs c hc).1
  unfold hasP
  by_cases h0 : c.xs.length = 0
  · rw [decide_eq_true h0, ← this, h0]; rfl
  · rw [decide_eq_false h0, decide_eq_true (show 0 < c.xs.length by omega)]; rfl
end

section
open Go.RowKit Go.Lib

theorem enters {P : Program} {f : FuncId} {fn : Func} (hf : P.funcs[f]? = some fn) (hn : (fn.name == "runtime.NumGoroutine") = false) (hb : fn.body.isNone = false) (args : Array Value) (w : World) : (callFunc f args).run P w = .ok (.enter f args) w := by
  have h1 : fn.name ≠ "runtime.NumGoroutine" := by simpa using hn
  have h2 : ¬ fn.body = none := by intro e; rw [e] at hb; cases hb
  simp [callFunc, hf, h1, h2]
end
end Go.Proofs.YticekgnmiaidjaaGreatDoor
