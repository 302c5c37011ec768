/- Rates: conform.isRate and dyeref1.second. -/
import Derived.Test.YtemlabmmafcapaaGreatDoorMem
import Derived.Test.YtemlabmmafcapaaGreatDoorShelf
namespace Go.Proofs.YtemlabmmafcapaaGreatDoor
open Go.RowKit

def secOf (r : Int) : Int := if r = 24 then 24 else if r = 25 then 25 else if r = 30 then 30 else if r = 48 then 48 else if r = 50 then 50 else if r = 60 then 60 else if r = 29 then 30 else 0
def rateB (r : Int) : Bool := decide (secOf r ≠ 0)
theorem rateB_eq (r : Int) : [(24 : Int), 25, 30, 48, 50, 60, 29].contains r = rateB r := by
  simp only [List.contains_cons, List.contains_nil, rateB, secOf]
  split
  · subst_vars; rfl
  split
  · subst_vars; rfl
  split
  · subst_vars; rfl
  split
  · subst_vars; rfl
  split
  · subst_vars; rfl
  split
  · subst_vars; rfl
  split
  · subst_vars; rfl
  simp [*]

set_option maxRecDepth 100000 in
set_option maxHeartbeats 2000000 in
theorem conform_isRate (r : Int) (W : World) : Calls Tryz.prog 34 #[.int .i64 r] W fun e w' => e = .returned (.bool (rateB r)) ∧ Below W.heap.size W w' := by
  rw [← rateB_eq]
  go_enter Tryz.func34, Tryz.ntmps34
  go_wp2_with fail
  refine (Tryz.slices_Contains_int _ _ 7 _ [24, 25, 30, 48, 50, 60, 29] r _ (by decide) (by decide) ?_).mono ?_
  · intro j hj
    simp only [List.length_cons, List.length_nil] at hj
    have : j = 0 ∨ j = 1 ∨ j = 2 ∨ j = 3 ∨ j = 4 ∨ j = 5 ∨ j = 6 := by omega
    rcases this with rfl | rfl | rfl | rfl | rfl | rfl | rfl <;> simp
  · rintro e w1 ⟨rfl, rfl⟩
    go_wp2_with fail
    go_ret
    refine ⟨?_, bnew (Below.refl _ W)⟩
    show Ending.returned (Value.bool (decide (r = 24) || (decide (r = 25) || (decide (r = 30) || (decide (r = 48) || (decide (r = 50) || (decide (r = 60) || decide (r = 29)))))))) = _
    congr 2
    simp only [List.contains_cons, List.contains_nil, Bool.or_false]
    rfl

end Go.Proofs.YtemlabmmafcapaaGreatDoor
