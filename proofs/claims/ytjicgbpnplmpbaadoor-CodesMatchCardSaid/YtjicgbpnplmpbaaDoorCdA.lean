/- Codes: errors and frames, plain and walked. (printed by gen_coda.py) -/
import Derived.Test.YtjicgbpnplmpbaaDoorRat
import Derived.Test.YtjicgbpnplmpbaaDoorTail
import Derived.BigQuiet
namespace Go.Proofs.YtjicgbpnplmpbaaDoor
open Go.RowKit

def cntd (r : Int) : Int := if r = 29 then 30 else r
def codeE (r h m s f : Int) : Int := if rateB r = false then 1 else if h < 0 ∨ 23 < h ∨ m < 0 ∨ 59 < m ∨ s < 0 ∨ 59 < s ∨ f < 0 ∨ cntd r ≤ f then 3 else if r = 29 ∧ f < 2 ∧ s = 0 ∧ m % 10 ≠ 0 then 5 else 0
theorem rate_in {r : Int} (h : rateB r = true) : r = 24 ∨ r = 25 ∨ r = 30 ∨ r = 48 ∨ r = 50 ∨ r = 60 ∨ r = 29 := by
  unfold rateB secOf at h
  simp only [decide_eq_true_eq] at h
  by_cases h1 : r = 24; · omega
  by_cases h2 : r = 25; · omega
  by_cases h3 : r = 30; · omega
  by_cases h4 : r = 48; · omega
  by_cases h5 : r = 50; · omega
  by_cases h6 : r = 60; · omega
  by_cases h7 : r = 29; · omega
  exact absurd (by simp [h1, h2, h3, h4, h5, h6, h7]) h
theorem sec_cntd {r : Int} (h : rateB r = true) : secOf r = cntd r ∧ 24 ≤ cntd r ∧ cntd r ≤ 60 := by
  rcases rate_in h with rfl | rfl | rfl | rfl | rfl | rfl | rfl <;> exact ⟨by decide, by decide, by decide⟩
theorem sec_none {r : Int} (h : rateB r = false) : secOf r = 0 := by
  unfold rateB at h
  simpa using h
def framesN (r h m s f : Int) : Int := ((h * 60 + m) * 60 + s) * cntd r + f - (if r = 29 then 2 * (h * 60 + m - (h * 60 + m) / 10) else 0)

theorem conform_counted (r : Int) (W : World) : Calls Tryd.prog 68 #[.int .i64 r] W fun e w' => e = .returned (.int .i64 (cntd r)) ∧ w' = W := by
  by_cases h : r = 29
  · subst h; go_enter Tryd.func68, Tryd.ntmps68; go_wp2_with fail; go_ret; exact ⟨rfl, rfl⟩
  · have e1 : (r == 29) = false := by simpa using h
    rw [cntd, if_neg h]
    go_enter Tryd.func68, Tryd.ntmps68; go_wp2_with fail; go_ret; exact ⟨rfl, rfl⟩
theorem ref_In_f (x lo hi : Int) (W : World) (h : x < lo ∨ hi < x) : Calls Tryd.prog 66 #[.int .i64 x, .int .i64 lo, .int .i64 hi] W fun e w' => e = .returned (.bool false) ∧ w' = W := by
  by_cases h1 : x < lo
  · have d : decide (lo ≤ x) = false := by simp; omega
    go_enter Tryd.func66, Tryd.ntmps66; go_wp2_with fail; go_ret; exact ⟨rfl, rfl⟩
  · have d : decide (lo ≤ x) = true := by simp; omega
    have d2 : decide (x ≤ hi) = false := by simp; omega
    go_enter Tryd.func66, Tryd.ntmps66; go_wp2_with fail; go_ret; exact ⟨rfl, rfl⟩
theorem ref_In_t (x lo hi : Int) (W : World) (h1 : lo ≤ x) (h2 : x ≤ hi) : Calls Tryd.prog 66 #[.int .i64 x, .int .i64 lo, .int .i64 hi] W fun e w' => e = .returned (.bool true) ∧ w' = W := by
  have d : decide (lo ≤ x) = true := by simp; omega
  have d2 : decide (x ≤ hi) = true := by simp; omega
  go_enter Tryd.func66, Tryd.ntmps66; go_wp2_with fail; go_ret; exact ⟨rfl, rfl⟩

set_option maxRecDepth 100000 in
set_option maxHeartbeats 4000000 in
theorem conform_checkCode (r h m s f : Int) (W : World) : Calls Tryd.prog 67 #[.int .i64 r, .agg #[.int .i64 h, .int .i64 m, .int .i64 s, .int .i64 f]] W fun e w' => e = .returned (.int .i64 (codeE r h m s f)) ∧ Below W.heap.size W w' := by
  generalize hres : codeE r h m s f = res
  have Hres := Lib.hid hres
  clear hres
  go_enter Tryd.func67, Tryd.ntmps67
  go_upto_region 1 with fail
  refine name_world ?_
  intro w0 hw0
  have x3 : Bx w0 W.heap.size 59 #[.int .i64 h, .int .i64 m, .int .i64 s, .int .i64 f] := by rw [hw0]; exact Bx.new _ _ _
  have B : Below W.heap.size W w0 := by rw [hw0]; exact bnew (Below.refl _ W)
  clear hw0
  obtain ⟨q3, f3, l3⟩ := x3.all
  go_wp2_with fail
  refine (conform_isRate r _).mono ?_
  rintro e w1 ⟨rfl, hb1⟩
  replace x3 := x3.keep hb1
  replace B := bcall B hb1
  clear hb1 q3 f3 l3
  obtain ⟨q3, f3, l3⟩ := x3.all
  cases hr : rateB r
  · obtain rfl : res = 1 := by rw [← Hres.out]; unfold codeE; rw [if_pos hr]
    go_wp2_with fail
    go_ret
    exact ⟨rfl, B⟩
  · obtain ⟨_, k1, k2⟩ := sec_cntd hr
    by_cases a1 : h < 0
    · have ea1 : decide (h < 0) = true := decide_eq_true a1
      obtain rfl : res = 3 := by rw [← Hres.out]; unfold codeE; rw [if_neg (by rw [hr]; decide), if_pos (by omega)]
      go_wp2_with fail
      go_quiet ((go_at_call 68; exact quiet_same ((conform_counted _ _).mono fun _ _ h => ⟨h.1, h.2.symm⟩)))
      go_wp2_with fail
      go_ret
      exact ⟨rfl, below_drewN B _⟩
    have ea1 : decide (h < 0) = false := decide_eq_false a1
    by_cases a2 : 23 < h
    · have ea2 : decide (23 < h) = true := decide_eq_true a2
      obtain rfl : res = 3 := by rw [← Hres.out]; unfold codeE; rw [if_neg (by rw [hr]; decide), if_pos (by omega)]
      go_wp2_with fail
      go_quiet ((go_at_call 68; exact quiet_same ((conform_counted _ _).mono fun _ _ h => ⟨h.1, h.2.symm⟩)))
      go_wp2_with fail
      go_ret
      exact ⟨rfl, below_drewN B _⟩
    have ea2 : decide (23 < h) = false := decide_eq_false a2
    by_cases a3 : m < 0
    · have ea3 : decide (m < 0) = true := decide_eq_true a3
      obtain rfl : res = 3 := by rw [← Hres.out]; unfold codeE; rw [if_neg (by rw [hr]; decide), if_pos (by omega)]
      go_wp2_with fail
      go_quiet ((go_at_call 68; exact quiet_same ((conform_counted _ _).mono fun _ _ h => ⟨h.1, h.2.symm⟩)))
      go_wp2_with fail
      go_ret
      exact ⟨rfl, below_drewN B _⟩
    have ea3 : decide (m < 0) = false := decide_eq_false a3
    by_cases a4 : 59 < m
    · have ea4 : decide (59 < m) = true := decide_eq_true a4
      obtain rfl : res = 3 := by rw [← Hres.out]; unfold codeE; rw [if_neg (by rw [hr]; decide), if_pos (by omega)]
      go_wp2_with fail
      go_quiet ((go_at_call 68; exact quiet_same ((conform_counted _ _).mono fun _ _ h => ⟨h.1, h.2.symm⟩)))
      go_wp2_with fail
      go_ret
      exact ⟨rfl, below_drewN B _⟩
    have ea4 : decide (59 < m) = false := decide_eq_false a4
    by_cases a5 : s < 0
    · have ea5 : decide (s < 0) = true := decide_eq_true a5
      obtain rfl : res = 3 := by rw [← Hres.out]; unfold codeE; rw [if_neg (by rw [hr]; decide), if_pos (by omega)]
      go_wp2_with fail
      go_quiet ((go_at_call 68; exact quiet_same ((conform_counted _ _).mono fun _ _ h => ⟨h.1, h.2.symm⟩)))
      go_wp2_with fail
      go_ret
      exact ⟨rfl, below_drewN B _⟩
    have ea5 : decide (s < 0) = false := decide_eq_false a5
    by_cases a6 : 59 < s
    · have ea6 : decide (59 < s) = true := decide_eq_true a6
      obtain rfl : res = 3 := by rw [← Hres.out]; unfold codeE; rw [if_neg (by rw [hr]; decide), if_pos (by omega)]
      go_wp2_with fail
      go_quiet ((go_at_call 68; exact quiet_same ((conform_counted _ _).mono fun _ _ h => ⟨h.1, h.2.symm⟩)))
      go_wp2_with fail
      go_ret
      exact ⟨rfl, below_drewN B _⟩
    have ea6 : decide (59 < s) = false := decide_eq_false a6
    by_cases a7 : f < 0
    · have ea7 : decide (f < 0) = true := decide_eq_true a7
      obtain rfl : res = 3 := by rw [← Hres.out]; unfold codeE; rw [if_neg (by rw [hr]; decide), if_pos (by omega)]
      go_wp2_with fail
      go_quiet ((go_at_call 68; exact quiet_same ((conform_counted _ _).mono fun _ _ h => ⟨h.1, h.2.symm⟩)))
      go_wp2_with fail
      go_ret
      exact ⟨rfl, below_drewN B _⟩
    have ea7 : decide (f < 0) = false := decide_eq_false a7
    by_cases a8 : cntd r ≤ f
    · have ea8 : decide (cntd r ≤ f) = true := decide_eq_true a8
      obtain rfl : res = 3 := by rw [← Hres.out]; unfold codeE; rw [if_neg (by rw [hr]; decide), if_pos (by omega)]
      go_wp2_with fail
      go_quiet ((go_at_call 68; exact quiet_same ((conform_counted _ _).mono fun _ _ h => ⟨h.1, h.2.symm⟩)))
      go_wp2_with fail
      go_ret
      exact ⟨rfl, below_drewN B _⟩
    have ea8 : decide (cntd r ≤ f) = false := decide_eq_false a8
    by_cases b1 : r = 29
    rotate_left
    · have eb1 : (r == 29) = false := by simpa using b1
      obtain rfl : res = 0 := by rw [← Hres.out]; unfold codeE; rw [if_neg (by rw [hr]; decide), if_neg (by omega), if_neg (by omega)]
      go_wp2_with fail
      go_quiet ((go_at_call 68; exact quiet_same ((conform_counted _ _).mono fun _ _ h => ⟨h.1, h.2.symm⟩)))
      go_wp2_with fail
      go_ret
      exact ⟨rfl, below_drewN B _⟩
    have eb1 : (r == 29) = true := by simpa using b1
    have Hb1 := Lib.hid b1
    clear b1
    by_cases b2 : f < 2
    rotate_left
    · have eb2 : decide (f < 2) = false := by simpa using b2
      obtain rfl : res = 0 := by have b1 := Hb1.out; rw [← Hres.out]; unfold codeE; rw [if_neg (by rw [hr]; decide), if_neg (by omega), if_neg (by omega)]
      go_wp2_with fail
      go_quiet ((go_at_call 68; exact quiet_same ((conform_counted _ _).mono fun _ _ h => ⟨h.1, h.2.symm⟩)))
      go_wp2_with fail
      go_ret
      exact ⟨rfl, below_drewN B _⟩
    have eb2 : decide (f < 2) = true := by simpa using b2
    by_cases b3 : s = 0
    rotate_left
    · have eb3 : (s == 0) = false := by simpa using b3
      obtain rfl : res = 0 := by have b1 := Hb1.out; rw [← Hres.out]; unfold codeE; rw [if_neg (by rw [hr]; decide), if_neg (by omega), if_neg (by omega)]
      go_wp2_with fail
      go_quiet ((go_at_call 68; exact quiet_same ((conform_counted _ _).mono fun _ _ h => ⟨h.1, h.2.symm⟩)))
      go_wp2_with fail
      go_ret
      exact ⟨rfl, below_drewN B _⟩
    have eb3 : (s == 0) = true := by simpa using b3
    have Hb3 := Lib.hid b3
    clear b3
    by_cases b4 : m % 10 = 0
    · have eb4 : (m % 10 != 0) = false := by simpa using b4
      obtain rfl : res = 0 := by have b1 := Hb1.out; have b3 := Hb3.out; rw [← Hres.out]; unfold codeE; rw [if_neg (by rw [hr]; decide), if_neg (by omega), if_neg (by omega)]
      clear b4
      go_wp2_with fail
      go_quiet ((go_at_call 68; exact quiet_same ((conform_counted _ _).mono fun _ _ h => ⟨h.1, h.2.symm⟩)))
      go_wp2_with fail
      go_ret
      exact ⟨rfl, below_drewN B _⟩
    · have eb4 : (m % 10 != 0) = true := by simpa using b4
      obtain rfl : res = 5 := by have b1 := Hb1.out; have b3 := Hb3.out; rw [← Hres.out]; unfold codeE; rw [if_neg (by rw [hr]; decide), if_neg (by omega), if_pos ⟨by omega, by omega, by omega, by omega⟩]
      go_wp2_with fail
      go_quiet ((go_at_call 68; exact quiet_same ((conform_counted _ _).mono fun _ _ h => ⟨h.1, h.2.symm⟩)))
      go_wp2_with fail
      go_ret
      exact ⟨rfl, below_drewN B _⟩

set_option maxRecDepth 100000 in
set_option maxHeartbeats 4000000 in
theorem ref_CodeError (r h m s f : Int) (W : World) : Calls Tryd.prog 25 #[.int .i64 r, .agg #[.int .i64 h, .int .i64 m, .int .i64 s, .int .i64 f]] W fun e w' => e = .returned (.int .i64 (codeE r h m s f)) ∧ Below W.heap.size W w' := by
  generalize hres : codeE r h m s f = res
  have Hres := Lib.hid hres
  clear hres
  go_enter Tryd.func25, Tryd.ntmps25
  go_upto_region 1 with fail
  refine name_world ?_
  intro w0 hw0
  have x3 : Bx w0 W.heap.size 59 #[.int .i64 h, .int .i64 m, .int .i64 s, .int .i64 f] := by rw [hw0]; exact Bx.new _ _ _
  have B : Below W.heap.size W w0 := by rw [hw0]; exact bnew (Below.refl _ W)
  clear hw0
  obtain ⟨q3, f3, l3⟩ := x3.all
  go_wp2_with fail
  refine (ref_second r _).mono ?_
  rintro e w1 ⟨rfl, rfl⟩
  cases hr : rateB r
  · rw [sec_none hr]
    obtain rfl : res = 1 := by rw [← Hres.out]; unfold codeE; rw [if_pos hr]
    go_wp2_with fail
    go_ret
    exact ⟨rfl, B⟩
  · obtain ⟨k0, k1, k2⟩ := sec_cntd hr
    rw [k0]
    have n0 : (cntd r == 0) = false := by simp; omega
    by_cases a1 : h < 0 ∨ 23 < h
    · obtain rfl : res = 3 := by rw [← Hres.out]; unfold codeE; rw [if_neg (by rw [hr]; decide), if_pos (by omega)]
      go_wp2_with (go_at_call 66; first | (refine (ref_In_t _ _ _ _ (by omega) (by omega)).mono ?_; rintro e w' ⟨rfl, rfl⟩) | (refine (ref_In_f _ _ _ _ (by omega)).mono ?_; rintro e w' ⟨rfl, rfl⟩))
      go_ret
      exact ⟨rfl, B⟩
    by_cases a2 : m < 0 ∨ 59 < m
    · obtain rfl : res = 3 := by rw [← Hres.out]; unfold codeE; rw [if_neg (by rw [hr]; decide), if_pos (by omega)]
      go_wp2_with (go_at_call 66; first | (refine (ref_In_t _ _ _ _ (by omega) (by omega)).mono ?_; rintro e w' ⟨rfl, rfl⟩) | (refine (ref_In_f _ _ _ _ (by omega)).mono ?_; rintro e w' ⟨rfl, rfl⟩))
      go_ret
      exact ⟨rfl, B⟩
    by_cases a3 : s < 0 ∨ 59 < s
    · obtain rfl : res = 3 := by rw [← Hres.out]; unfold codeE; rw [if_neg (by rw [hr]; decide), if_pos (by omega)]
      go_wp2_with (go_at_call 66; first | (refine (ref_In_t _ _ _ _ (by omega) (by omega)).mono ?_; rintro e w' ⟨rfl, rfl⟩) | (refine (ref_In_f _ _ _ _ (by omega)).mono ?_; rintro e w' ⟨rfl, rfl⟩))
      go_ret
      exact ⟨rfl, B⟩
    by_cases a4 : f < 0 ∨ cntd r - 1 < f
    · obtain rfl : res = 3 := by rw [← Hres.out]; unfold codeE; rw [if_neg (by rw [hr]; decide), if_pos (by omega)]
      go_wp2_with (go_at_call 66; first | (refine (ref_In_t _ _ _ _ (by omega) (by omega)).mono ?_; rintro e w' ⟨rfl, rfl⟩) | (refine (ref_In_f _ _ _ _ (by omega)).mono ?_; rintro e w' ⟨rfl, rfl⟩))
      go_ret
      exact ⟨rfl, B⟩
    by_cases b1 : r = 29
    rotate_left
    · have eb1 : (r == 29) = false := by simpa using b1
      obtain rfl : res = 0 := by rw [← Hres.out]; unfold codeE; rw [if_neg (by rw [hr]; decide), if_neg (by omega), if_neg (by omega)]
      go_wp2_with (go_at_call 66; first | (refine (ref_In_t _ _ _ _ (by omega) (by omega)).mono ?_; rintro e w' ⟨rfl, rfl⟩) | (refine (ref_In_f _ _ _ _ (by omega)).mono ?_; rintro e w' ⟨rfl, rfl⟩))
      go_ret
      exact ⟨rfl, B⟩
    have eb1 : (r == 29) = true := by simpa using b1
    have Hb1 := Lib.hid b1
    clear b1
    by_cases b4 : m % 10 = 0
    · have eb4 : (m % 10 != 0) = false := by simpa using b4
      obtain rfl : res = 0 := by have b1 := Hb1.out; rw [← Hres.out]; unfold codeE; rw [if_neg (by rw [hr]; decide), if_neg (by omega), if_neg (by omega)]
      clear b4
      go_wp2_with (go_at_call 66; first | (refine (ref_In_t _ _ _ _ (by omega) (by omega)).mono ?_; rintro e w' ⟨rfl, rfl⟩) | (refine (ref_In_f _ _ _ _ (by omega)).mono ?_; rintro e w' ⟨rfl, rfl⟩))
      go_ret
      exact ⟨rfl, B⟩
    have eb4 : (m % 10 != 0) = true := by simpa using b4
    by_cases b3 : s = 0
    rotate_left
    · have eb3 : (s == 0) = false := by simpa using b3
      obtain rfl : res = 0 := by have b1 := Hb1.out; rw [← Hres.out]; unfold codeE; rw [if_neg (by rw [hr]; decide), if_neg (by omega), if_neg (by omega)]
      go_wp2_with (go_at_call 66; first | (refine (ref_In_t _ _ _ _ (by omega) (by omega)).mono ?_; rintro e w' ⟨rfl, rfl⟩) | (refine (ref_In_f _ _ _ _ (by omega)).mono ?_; rintro e w' ⟨rfl, rfl⟩))
      go_ret
      exact ⟨rfl, B⟩
    have eb3 : (s == 0) = true := by simpa using b3
    have Hb3 := Lib.hid b3
    clear b3
    by_cases b2 : f < 2
    rotate_left
    · have eb2 : decide (f < 2) = false := by simpa using b2
      obtain rfl : res = 0 := by have b1 := Hb1.out; have b3 := Hb3.out; rw [← Hres.out]; unfold codeE; rw [if_neg (by rw [hr]; decide), if_neg (by omega), if_neg (by omega)]
      go_wp2_with (go_at_call 66; first | (refine (ref_In_t _ _ _ _ (by omega) (by omega)).mono ?_; rintro e w' ⟨rfl, rfl⟩) | (refine (ref_In_f _ _ _ _ (by omega)).mono ?_; rintro e w' ⟨rfl, rfl⟩))
      go_ret
      exact ⟨rfl, B⟩
    have eb2 : decide (f < 2) = true := by simpa using b2
    obtain rfl : res = 5 := by have b1 := Hb1.out; have b3 := Hb3.out; rw [← Hres.out]; unfold codeE; rw [if_neg (by rw [hr]; decide), if_neg (by omega), if_pos ⟨by omega, by omega, by omega, by omega⟩]
    go_wp2_with (go_at_call 66; first | (refine (ref_In_t _ _ _ _ (by omega) (by omega)).mono ?_; rintro e w' ⟨rfl, rfl⟩) | (refine (ref_In_f _ _ _ _ (by omega)).mono ?_; rintro e w' ⟨rfl, rfl⟩))
    go_ret
    exact ⟨rfl, B⟩
end Go.Proofs.YtjicgbpnplmpbaaDoor
