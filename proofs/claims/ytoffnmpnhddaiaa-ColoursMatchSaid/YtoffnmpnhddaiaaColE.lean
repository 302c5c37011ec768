/- The errors of False and Zebra, each as one. -/
import Derived.Test.YtoffnmpnhddaiaaCol9
import Derived.Test.YtoffnmpnhddaiaaColB
import Derived.Test.YtoffnmpnhddaiaaColD
namespace Go.Proofs.Ytoffnmpnhddaiaa
open Go.RowKit

theorem all3_false {a b c : Nat} (h : [a, b, c].all isNum = false) : (!isNum a || (!isNum b || !isNum c)) = true := by
  simp only [List.all_cons, List.all_nil, Bool.and_true] at h
  revert h
  cases isNum a <;> cases isNum b <;> cases isNum c <;> decide
theorem all3_true {a b c : Nat} (h : [a, b, c].all isNum = true) : (!isNum a || (!isNum b || !isNum c)) = false := by
  simp only [List.all_cons, List.all_nil, Bool.and_true] at h
  revert h
  cases isNum a <;> cases isNum b <;> cases isNum c <;> decide

theorem falseErr_ok {wa wb_ wc : Nat} {ls : List Nat} {n : Nat} (h : falseErr wa wb_ wc ls n = 0) : [wa, wb_, wc].all isNum = true ∧ bandsErr ls n = 0 := by
  cases hw : [wa, wb_, wc].all isNum
  · rw [falseErr, all3_false hw] at h
    simp [whenV, firstV] at h
  · rw [falseErr, all3_true hw] at h
    simp [whenV, firstV] at h
    exact ⟨rfl, h⟩

theorem scope_False_err (x y : Int) (w h N b o c wa wb_ wc n : Nat) (e0 : Int) (lv : Value) (ls : List Nat) (W : World) (hM2 : N ≤ 262144) (hck : checkFrame x y w h N = 0) (hne : e0 ≠ 0) (hfe : falseErr wa wb_ wc ls n = e0) (hs : SlB W lv ls n) :
    Calls Try.prog 54 #[.agg #[.int .i64 x, .int .i64 y, .int .i64 w, .int .i64 h, .slice (some ⟨b, o, none⟩) N c], .agg #[.float .f32 wa, .float .f32 wb_, .float .f32 wc], lv] W fun e w' =>
      e = .returned (.tuple #[.agg #[.int .i64 0, .int .i64 0, .int .i64 0, .int .i64 0, .slice none 0 0], .int .i64 e0]) ∧ Below W.heap.size W w' := by
  cases hw : [wa, wb_, wc].all isNum
  · rw [falseErr, all3_false hw] at hfe
    simp [whenV, firstV] at hfe
    exact scope_False_w x y w h N b o c wa wb_ wc n e0 lv ls W hM2 hck hfe.symm hw hs
  · rw [falseErr, all3_true hw] at hfe
    simp [whenV, firstV] at hfe
    exact scope_False_b x y w h N b o c wa wb_ wc n e0 lv ls W hM2 hck hne hw hfe hs

theorem zebErr_ok {wa wb_ wc lv : Nat} {wd : Int} (h : firstL (zebErrs wa wb_ wc lv wd) = 0) : [wa, wb_, wc].all isNum = true ∧ isNum lv = true ∧ 1 ≤ wd ∧ wd ≤ 64 := by
  unfold zebErrs at h
  cases hw : [wa, wb_, wc].all isNum
  · rw [all3_false hw] at h
    simp [whenV, firstL] at h
  · rw [all3_true hw] at h
    cases hl : isNum lv
    · simp [hl, whenV, firstL] at h
    · by_cases hd : wd < 1
      · simp [hl, hd, whenV, firstL] at h
      · by_cases hd2 : 64 < wd
        · simp [hl, hd2, whenV, firstL] at h
        · exact ⟨rfl, rfl, by omega, by omega⟩

theorem scope_Zebra_err (x y wd : Int) (w h N b o c wa wb_ wc lv : Nat) (e0 : Int) (W : World) (hM2 : N ≤ 262144) (hck : checkFrame x y w h N = 0) (hne : e0 ≠ 0) (hfe : firstL (zebErrs wa wb_ wc lv wd) = e0) :
    Calls Try.prog 56 #[.agg #[.int .i64 x, .int .i64 y, .int .i64 w, .int .i64 h, .slice (some ⟨b, o, none⟩) N c], .agg #[.float .f32 wa, .float .f32 wb_, .float .f32 wc], .float .f32 lv, .int .i64 wd] W fun e w' =>
      e = .returned (.tuple #[.agg #[.int .i64 0, .int .i64 0, .int .i64 0, .int .i64 0, .slice none 0 0], .int .i64 e0]) ∧ Below W.heap.size W w' := by
  unfold zebErrs at hfe
  cases hw : [wa, wb_, wc].all isNum
  · rw [all3_false hw] at hfe
    simp [whenV, firstL] at hfe
    subst hfe
    exact scope_Zebra_w x y wd w h 0 N b o c wa wb_ wc lv [] W hM2 hck hw
  · rw [all3_true hw] at hfe
    cases hl : isNum lv
    · simp [hl, whenV, firstL] at hfe
      subst hfe
      exact scope_Zebra_l x y wd w h 0 N b o c wa wb_ wc lv [] W hM2 hck hw hl
    · by_cases hd : wd < 1
      · simp [hl, hd, whenV, firstL] at hfe
        subst hfe
        exact scope_Zebra_r1 x y wd w h 0 N b o c wa wb_ wc lv [] W hM2 hck hw hl hd
      · by_cases hd2 : 64 < wd
        · simp [hl, hd2, whenV, firstL] at hfe
          subst hfe
          exact scope_Zebra_r2 x y wd w h 0 N b o c wa wb_ wc lv [] W hM2 hck hw hl hd2
        · simp [hl, hd, hd2, whenV, firstL] at hfe
          exact absurd hfe.symm hne

theorem ref_Zebra_err (x y wd : Int) (w h N b o c wa wb_ wc lv : Nat) (e0 : Int) (W : World) (hne : e0 ≠ 0) (hfe : firstL (zebErrs wa wb_ wc lv wd) = e0) :
    Calls Try.prog 57 #[.agg #[.int .i64 x, .int .i64 y, .int .i64 w, .int .i64 h, .slice (some ⟨b, o, none⟩) N c], .agg #[.float .f32 wa, .float .f32 wb_, .float .f32 wc], .float .f32 lv, .int .i64 wd] W fun e w' =>
      e = .returned (.tuple #[.agg #[.int .i64 0, .int .i64 0, .int .i64 0, .int .i64 0, .slice none 0 0], .int .i64 e0]) ∧ Below W.heap.size W w' := by
  by_cases hd : wd < 1
  · exact ref_Zebra_b1 x y wd w h N b o c wa wb_ wc lv e0 W hne hfe hd
  · by_cases hd2 : 64 < wd
    · exact ref_Zebra_b2 x y wd w h N b o c wa wb_ wc lv e0 W hne hfe hd2
    · exact ref_Zebra_b3 x y wd w h N b o c wa wb_ wc lv e0 W hne hfe (by omega) (by omega)
end Go.Proofs.Ytoffnmpnhddaiaa
