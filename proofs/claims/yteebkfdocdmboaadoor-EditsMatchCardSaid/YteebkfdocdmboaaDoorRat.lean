/- Rates: conform.isRate and dyeref1.second. -/
import Derived.Test.YteebkfdocdmboaaDoorMem
import Derived.Test.YteebkfdocdmboaaDoorShelf
namespace Go.Proofs.YteebkfdocdmboaaDoor
open Go.RowKit

def secOf (r : Int) : Int := if r = 24 then 24 else if r = 25 then 25 else if r = 30 then 30 else if r = 48 then 48 else if r = 50 then 50 else if r = 60 then 60 else if r = 29 then 30 else 0
def rateB (r : Int) : Bool := decide (secOf r ≠ 0)
theorem rateB_eq (r : Int) : [(24 : Int), 25, 30, 48, 50, 60, 29].contains r = rateB r := by
  simp only [List.contains_cons, List.contains_nil, rateB, secOf]
  split
  · subst_vars; rfl
  split
  · subst_vars; rfl
  split
  · subst_vars; rfl
  split
  · subst_vars; rfl
  split
  · subst_vars; rfl
  split
  · subst_vars; rfl
  split
  · subst_vars; rfl
  simp [*]

set_option maxRecDepth 100000 in
set_option maxHeartbeats 2000000 in
theorem conform_isRate (r : Int) (W : World) : Calls Tryd.prog 24 #[.int .i64 r] W fun e w' => e = .returned (.bool (rateB r)) ∧ Below W.heap.size W w' := by
  rw [← rateB_eq]
  go_enter Tryd.func24, Tryd.ntmps24
  go_wp2_with fail
  refine (Tryd.slices_Contains_int _ _ 7 _ [24, 25, 30, 48, 50, 60, 29] r _ (by decide) (by decide) ?_).mono ?_
  · intro j hj
    simp only [List.length_cons, List.length_nil] at hj
    have : j = 0 ∨ j = 1 ∨ j = 2 ∨ j = 3 ∨ j = 4 ∨ j = 5 ∨ j = 6 := by omega
    rcases this with rfl | rfl | rfl | rfl | rfl | rfl | rfl <;> simp
  · rintro e w1 ⟨rfl, rfl⟩
    go_wp2_with fail
    go_ret
    refine ⟨?_, bnew (Below.refl _ W)⟩
    show Ending.returned (Value.bool (decide (r = 24) || (decide (r = 25) || (decide (r = 30) || (decide (r = 48) || (decide (r = 50) || (decide (r = 60) || decide (r = 29)))))))) = _
    congr 2
    simp only [List.contains_cons, List.contains_nil, Bool.or_false]
    rfl

set_option maxRecDepth 100000 in
set_option maxHeartbeats 2000000 in
theorem ref_second (r : Int) (W : World) : Calls Tryd.prog 17 #[.int .i64 r] W fun e w' => e = .returned (.int .i64 (secOf r)) ∧ w' = W := by
  by_cases h1 : r = 24
  · subst h1; go_enter Tryd.func17, Tryd.ntmps17; go_wp2_with fail; go_ret; exact ⟨rfl, rfl⟩
  by_cases h2 : r = 25
  · subst h2; go_enter Tryd.func17, Tryd.ntmps17; go_wp2_with fail; go_ret; exact ⟨rfl, rfl⟩
  by_cases h3 : r = 30
  · subst h3; go_enter Tryd.func17, Tryd.ntmps17; go_wp2_with fail; go_ret; exact ⟨rfl, rfl⟩
  by_cases h4 : r = 48
  · subst h4; go_enter Tryd.func17, Tryd.ntmps17; go_wp2_with fail; go_ret; exact ⟨rfl, rfl⟩
  by_cases h5 : r = 50
  · subst h5; go_enter Tryd.func17, Tryd.ntmps17; go_wp2_with fail; go_ret; exact ⟨rfl, rfl⟩
  by_cases h6 : r = 60
  · subst h6; go_enter Tryd.func17, Tryd.ntmps17; go_wp2_with fail; go_ret; exact ⟨rfl, rfl⟩
  by_cases h7 : r = 29
  · subst h7; go_enter Tryd.func17, Tryd.ntmps17; go_wp2_with fail; go_ret; exact ⟨rfl, rfl⟩
  have hr : secOf r = 0 := by simp [secOf, h1, h2, h3, h4, h5, h6, h7]
  rw [hr]
  have e1 : (r == 24) = false := by simpa using h1
  have e2 : (r == 25) = false := by simpa using h2
  have e3 : (r == 30) = false := by simpa using h3
  have e4 : (r == 48) = false := by simpa using h4
  have e5 : (r == 50) = false := by simpa using h5
  have e6 : (r == 60) = false := by simpa using h6
  have e7 : (r == 29) = false := by simpa using h7
  go_enter Tryd.func17, Tryd.ntmps17
  go_wp2_with fail
  go_ret
  exact ⟨rfl, rfl⟩
end Go.Proofs.YteebkfdocdmboaaDoor
