/- Mattes: the checks, and the law's own maker. -/
import Derived.Test.YtjicgbpnplmpbaaDoorEch
import Derived.Test.YtjicgbpnplmpbaaDoorChg
import Derived.Test.YtjicgbpnplmpbaaDoorReg
import Derived.RegionTactic
namespace Go.Proofs.YtjicgbpnplmpbaaDoor
open Go.RowKit

def checkMatte (x y w h : Int) (n : Nat) : Int := if checkRegion x y w h = 0 then (if (n : Int) = w * h then 0 else 2) else checkRegion x y w h

def whenV (b : Bool) (n : Int) : Int := if b then n else 0
def firstV (a b : Int) : Int := if a = 0 then b else a
theorem ref_When (b : Bool) (n : Int) (W : World) : Calls Tryd.prog 37 #[.bool b, .int .i64 n] W fun e w' => e = .returned (.int .i64 (whenV b n)) ∧ W = w' := by
  cases b
  all_goals
    go_enter Tryd.func37, Tryd.ntmps37
    go_wp2
    go_ret
    exact ⟨rfl, rfl⟩

/-- First of two errors. -/
theorem ref_First2 (a b : Int) (g c : Nat) (T : TypeId) (W : World) (hg : Bx W g T #[.int .i64 a, .int .i64 b]) : Calls Tryd.prog 35 #[.slice (some ⟨g, 0, none⟩) 2 c] W fun e w' => e = .returned (.int .i64 (firstV a b)) ∧ Below W.heap.size W w' := by
  obtain ⟨q, f, l⟩ := hg.all
  have q0 := q 0
  have q1 := q 1
  simp only [List.getElem?_toArray, List.getElem?_cons_zero, List.getElem?_cons_succ] at q0 q1
  clear q f hg
  by_cases ha : a = 0
  · subst ha
    by_cases hb : b = 0
    · subst hb
      go_enter Tryd.func35, Tryd.ntmps35
      go_wp2_with fail
      refine wp_loop_rounds 3 ?_
      rw [rounds_succ]
      go_wp2_with fail
      rw [rounds_succ]
      go_wp2_with fail
      rw [rounds_succ]
      go_wp2_with fail
      go_ret
      exact ⟨rfl, Below.refl _ _⟩
    · go_enter Tryd.func35, Tryd.ntmps35
      go_wp2_with fail
      refine wp_loop_rounds 2 ?_
      rw [rounds_succ]
      go_wp2_with fail
      rw [rounds_succ]
      go_wp2_with fail
      go_ret
      exact ⟨rfl, Below.refl _ _⟩
  · go_enter Tryd.func35, Tryd.ntmps35
    go_wp2_with fail
    refine wp_loop_rounds 1 ?_
    rw [rounds_succ]
    go_wp2_with fail
    go_ret
    exact ⟨ret_int (by simp [firstV, ha]), Below.refl _ _⟩

theorem checkMatte_eq (x y w h : Int) (n : Nat) : firstV (checkRegion x y w h) (whenV ((n : Int) != wrap64 (w * h)) 2) = checkMatte x y w h n := by
  unfold checkMatte firstV
  split
  · rename_i h0
    obtain ⟨b1, b2, b3, b4, _⟩ := checkRegion_ok h0
    rw [wrap_mul w h b1 b2 b3 b4]
    by_cases hn : (n : Int) = w * h <;> simp [hn, whenV]
  · rfl

end Go.Proofs.YtjicgbpnplmpbaaDoor
