/- Codes and numbers: conform.Frames, CodeOf and the reference's, walked. -/
import Derived.Test.YtemlabmmafcapaaGreatDoorRat
import Derived.Test.YtemlabmmafcapaaGreatDoorTail
import Derived.BigQuiet
namespace Go.Proofs.YtemlabmmafcapaaGreatDoor

section
open Go.RowKit

def cntd (r : Int) : Int := if r = 29 then 30 else r
def codeE (r h m s f : Int) : Int := if rateB r = false then 1 else if h < 0 ∨ 23 < h ∨ m < 0 ∨ 59 < m ∨ s < 0 ∨ 59 < s ∨ f < 0 ∨ cntd r ≤ f then 3 else if r = 29 ∧ f < 2 ∧ s = 0 ∧ m % 10 ≠ 0 then 5 else 0
theorem rate_in {r : Int} (h : rateB r = true) : r = 24 ∨ r = 25 ∨ r = 30 ∨ r = 48 ∨ r = 50 ∨ r = 60 ∨ r = 29 := by
  unfold rateB secOf at h
  simp only [decide_eq_true_eq] at h
  by_cases h1 : r = 24; · omega
  by_cases h2 : r = 25; · omega
  by_cases h3 : r = 30; · omega
  by_cases h4 : r = 48; · omega
  by_cases h5 : r = 50; · omega
  by_cases h6 : r = 60; · omega
  by_cases h7 : r = 29; · omega
  exact absurd (by simp [h1, h2, h3, h4, h5, h6, h7]) h
theorem sec_cntd {r : Int} (h : rateB r = true) : secOf r = cntd r ∧ 24 ≤ cntd r ∧ cntd r ≤ 60 := by
  rcases rate_in h with rfl | rfl | rfl | rfl | rfl | rfl | rfl <;> exact ⟨by decide, by decide, by decide⟩
theorem sec_none {r : Int} (h : rateB r = false) : secOf r = 0 := by
  unfold rateB at h
  simpa using h
def framesN (r h m s f : Int) : Int := ((h * 60 + m) * 60 + s) * cntd r + f - (if r = 29 then 2 * (h * 60 + m - (h * 60 + m) / 10) else 0)

theorem conform_counted (r : Int) (W : World) : Calls Tryz.prog 37 #[.int .i64 r] W fun e w' => e = .returned (.int .i64 (cntd r)) ∧ w' = W := by
  by_cases h : r = 29
  · subst h; go_enter Tryz.func37, Tryz.ntmps37; go_wp2_with fail; go_ret; exact ⟨rfl, rfl⟩
  · have e1 : (r == 29) = false := by simpa using h
    rw [cntd, if_neg h]
    go_enter Tryz.func37, Tryz.ntmps37; go_wp2_with fail; go_ret; exact ⟨rfl, rfl⟩
set_option maxRecDepth 100000 in
set_option maxHeartbeats 4000000 in
theorem conform_checkCode (r h m s f : Int) (W : World) : Calls Tryz.prog 38 #[.int .i64 r, .agg #[.int .i64 h, .int .i64 m, .int .i64 s, .int .i64 f]] W fun e w' => e = .returned (.int .i64 (codeE r h m s f)) ∧ Below W.heap.size W w' := by
  generalize hres : codeE r h m s f = res
  have Hres := Lib.hid hres
  clear hres
  go_enter Tryz.func38, Tryz.ntmps38
  go_upto_region 1 with fail
  refine name_world ?_
  intro w0 hw0
  have x3 : Bx w0 W.heap.size 61 #[.int .i64 h, .int .i64 m, .int .i64 s, .int .i64 f] := by rw [hw0]; exact Bx.new _ _ _
  have B : Below W.heap.size W w0 := by rw [hw0]; exact bnew (Below.refl _ W)
  clear hw0
  obtain ⟨q3, f3, l3⟩ := x3.all
  go_wp2_with fail
  refine (conform_isRate r _).mono ?_
  rintro e w1 ⟨rfl, hb1⟩
  replace x3 := x3.keep hb1
  replace B := bcall B hb1
  clear hb1 q3 f3 l3
  obtain ⟨q3, f3, l3⟩ := x3.all
  cases hr : rateB r
  · obtain rfl : res = 1 := by rw [← Hres.out]; unfold codeE; rw [if_pos hr]
    go_wp2_with fail
    go_ret
    exact ⟨rfl, B⟩
  · obtain ⟨_, k1, k2⟩ := sec_cntd hr
    by_cases a1 : h < 0
    · have ea1 : decide (h < 0) = true := decide_eq_true a1
      obtain rfl : res = 3 := by rw [← Hres.out]; unfold codeE; rw [if_neg (by rw [hr]; decide), if_pos (by omega)]
      go_wp2_with fail
      go_quiet ((go_at_call 37; exact quiet_same ((conform_counted _ _).mono fun _ _ h => ⟨h.1, h.2.symm⟩)))
      go_wp2_with fail
      go_ret
      exact ⟨rfl, below_drewN B _⟩
    have ea1 : decide (h < 0) = false := decide_eq_false a1
    by_cases a2 : 23 < h
    · have ea2 : decide (23 < h) = true := decide_eq_true a2
      obtain rfl : res = 3 := by rw [← Hres.out]; unfold codeE; rw [if_neg (by rw [hr]; decide), if_pos (by omega)]
      go_wp2_with fail
      go_quiet ((go_at_call 37; exact quiet_same ((conform_counted _ _).mono fun _ _ h => ⟨h.1, h.2.symm⟩)))
      go_wp2_with fail
      go_ret
      exact ⟨rfl, below_drewN B _⟩
    have ea2 : decide (23 < h) = false := decide_eq_false a2
    by_cases a3 : m < 0
    · have ea3 : decide (m < 0) = true := decide_eq_true a3
      obtain rfl : res = 3 := by rw [← Hres.out]; unfold codeE; rw [if_neg (by rw [hr]; decide), if_pos (by omega)]
      go_wp2_with fail
      go_quiet ((go_at_call 37; exact quiet_same ((conform_counted _ _).mono fun _ _ h => ⟨h.1, h.2.symm⟩)))
      go_wp2_with fail
      go_ret
      exact ⟨rfl, below_drewN B _⟩
    have ea3 : decide (m < 0) = false := decide_eq_false a3
    by_cases a4 : 59 < m
    · have ea4 : decide (59 < m) = true := decide_eq_true a4
      obtain rfl : res = 3 := by rw [← Hres.out]; unfold codeE; rw [if_neg (by rw [hr]; decide), if_pos (by omega)]
      go_wp2_with fail
      go_quiet ((go_at_call 37; exact quiet_same ((conform_counted _ _).mono fun _ _ h => ⟨h.1, h.2.symm⟩)))
      go_wp2_with fail
      go_ret
      exact ⟨rfl, below_drewN B _⟩
    have ea4 : decide (59 < m) = false := decide_eq_false a4
    by_cases a5 : s < 0
    · have ea5 : decide (s < 0) = true := decide_eq_true a5
      obtain rfl : res = 3 := by rw [← Hres.out]; unfold codeE; rw [if_neg (by rw [hr]; decide), if_pos (by omega)]
      go_wp2_with fail
      go_quiet ((go_at_call 37; exact quiet_same ((conform_counted _ _).mono fun _ _ h => ⟨h.1, h.2.symm⟩)))
      go_wp2_with fail
      go_ret
      exact ⟨rfl, below_drewN B _⟩
    have ea5 : decide (s < 0) = false := decide_eq_false a5
    by_cases a6 : 59 < s
    · have ea6 : decide (59 < s) = true := decide_eq_true a6
      obtain rfl : res = 3 := by rw [← Hres.out]; unfold codeE; rw [if_neg (by rw [hr]; decide), if_pos (by omega)]
      go_wp2_with fail
      go_quiet ((go_at_call 37; exact quiet_same ((conform_counted _ _).mono fun _ _ h => ⟨h.1, h.2.symm⟩)))
      go_wp2_with fail
      go_ret
      exact ⟨rfl, below_drewN B _⟩
    have ea6 : decide (59 < s) = false := decide_eq_false a6
    by_cases a7 : f < 0
    · have ea7 : decide (f < 0) = true := decide_eq_true a7
      obtain rfl : res = 3 := by rw [← Hres.out]; unfold codeE; rw [if_neg (by rw [hr]; decide), if_pos (by omega)]
      go_wp2_with fail
      go_quiet ((go_at_call 37; exact quiet_same ((conform_counted _ _).mono fun _ _ h => ⟨h.1, h.2.symm⟩)))
      go_wp2_with fail
      go_ret
      exact ⟨rfl, below_drewN B _⟩
    have ea7 : decide (f < 0) = false := decide_eq_false a7
    by_cases a8 : cntd r ≤ f
    · have ea8 : decide (cntd r ≤ f) = true := decide_eq_true a8
      obtain rfl : res = 3 := by rw [← Hres.out]; unfold codeE; rw [if_neg (by rw [hr]; decide), if_pos (by omega)]
      go_wp2_with fail
      go_quiet ((go_at_call 37; exact quiet_same ((conform_counted _ _).mono fun _ _ h => ⟨h.1, h.2.symm⟩)))
      go_wp2_with fail
      go_ret
      exact ⟨rfl, below_drewN B _⟩
    have ea8 : decide (cntd r ≤ f) = false := decide_eq_false a8
    by_cases b1 : r = 29
    rotate_left
    · have eb1 : (r == 29) = false := by simpa using b1
      obtain rfl : res = 0 := by rw [← Hres.out]; unfold codeE; rw [if_neg (by rw [hr]; decide), if_neg (by omega), if_neg (by omega)]
      go_wp2_with fail
      go_quiet ((go_at_call 37; exact quiet_same ((conform_counted _ _).mono fun _ _ h => ⟨h.1, h.2.symm⟩)))
      go_wp2_with fail
      go_ret
      exact ⟨rfl, below_drewN B _⟩
    have eb1 : (r == 29) = true := by simpa using b1
    have Hb1 := Lib.hid b1
    clear b1
    by_cases b2 : f < 2
    rotate_left
    · have eb2 : decide (f < 2) = false := by simpa using b2
      obtain rfl : res = 0 := by have b1 := Hb1.out; rw [← Hres.out]; unfold codeE; rw [if_neg (by rw [hr]; decide), if_neg (by omega), if_neg (by omega)]
      go_wp2_with fail
      go_quiet ((go_at_call 37; exact quiet_same ((conform_counted _ _).mono fun _ _ h => ⟨h.1, h.2.symm⟩)))
      go_wp2_with fail
      go_ret
      exact ⟨rfl, below_drewN B _⟩
    have eb2 : decide (f < 2) = true := by simpa using b2
    by_cases b3 : s = 0
    rotate_left
    · have eb3 : (s == 0) = false := by simpa using b3
      obtain rfl : res = 0 := by have b1 := Hb1.out; rw [← Hres.out]; unfold codeE; rw [if_neg (by rw [hr]; decide), if_neg (by omega), if_neg (by omega)]
      go_wp2_with fail
      go_quiet ((go_at_call 37; exact quiet_same ((conform_counted _ _).mono fun _ _ h => ⟨h.1, h.2.symm⟩)))
      go_wp2_with fail
      go_ret
      exact ⟨rfl, below_drewN B _⟩
    have eb3 : (s == 0) = true := by simpa using b3
    have Hb3 := Lib.hid b3
    clear b3
    by_cases b4 : m % 10 = 0
    · have eb4 : (m % 10 != 0) = false := by simpa using b4
      obtain rfl : res = 0 := by have b1 := Hb1.out; have b3 := Hb3.out; rw [← Hres.out]; unfold codeE; rw [if_neg (by rw [hr]; decide), if_neg (by omega), if_neg (by omega)]
      clear b4
      go_wp2_with fail
      go_quiet ((go_at_call 37; exact quiet_same ((conform_counted _ _).mono fun _ _ h => ⟨h.1, h.2.symm⟩)))
      go_wp2_with fail
      go_ret
      exact ⟨rfl, below_drewN B _⟩
    · have eb4 : (m % 10 != 0) = true := by simpa using b4
      obtain rfl : res = 5 := by have b1 := Hb1.out; have b3 := Hb3.out; rw [← Hres.out]; unfold codeE; rw [if_neg (by rw [hr]; decide), if_neg (by omega), if_pos ⟨by omega, by omega, by omega, by omega⟩]
      go_wp2_with fail
      go_quiet ((go_at_call 37; exact quiet_same ((conform_counted _ _).mono fun _ _ h => ⟨h.1, h.2.symm⟩)))
      go_wp2_with fail
      go_ret
      exact ⟨rfl, below_drewN B _⟩
end

section
open Go.RowKit

def dayN (r : Int) : Int := if r = 29 then 2589408 else 86400 * r
/-- the number that is counted, of a number of codes within a day -/
def cnum (r k : Int) : Int := if r = 29 then 18000 * (k / 17982) + k % 17982 + (if 1800 ≤ k % 17982 then 2 * ((k % 17982 - 1800) / 1798 + 1) else 0) else k
def codeOfH (r n : Int) : Int := cnum r (n % dayN r) / cntd r / 3600
def codeOfM (r n : Int) : Int := cnum r (n % dayN r) / cntd r / 60 % 60
def codeOfS (r n : Int) : Int := cnum r (n % dayN r) / cntd r % 60
def codeOfF (r n : Int) : Int := cnum r (n % dayN r) % cntd r

theorem day_pos {r : Int} (h : rateB r = true) : 2073600 ≤ dayN r ∧ dayN r ≤ 5184000 := by
  rcases rate_in h with rfl | rfl | rfl | rfl | rfl | rfl | rfl <;> exact ⟨by decide, by decide⟩
theorem cnum_range {r k : Int} (h : rateB r = true) (h0 : 0 ≤ k) (h1 : k < dayN r) : 0 ≤ cnum r k ∧ cnum r k < 86400 * cntd r := by
  by_cases e : r = 29
  · subst e
    have hd : dayN 29 = 2589408 := rfl
    have hc : cntd 29 = 30 := rfl
    rw [hd] at h1; rw [hc]
    have hcn : cnum 29 k = 18000 * (k / 17982) + k % 17982 + (if 1800 ≤ k % 17982 then 2 * ((k % 17982 - 1800) / 1798 + 1) else 0) := rfl
    rw [hcn]
    split <;> omega
  · have hd : dayN r = 86400 * r := if_neg e
    have hc : cntd r = r := if_neg e
    have hcn : cnum r k = k := if_neg e
    rw [hd] at h1; rw [hc, hcn]; exact ⟨h0, h1⟩
/-- the code that is made is right, and has as many before it. -/
theorem code_of_right {r n : Int} (h : rateB r = true) : codeE r (codeOfH r n) (codeOfM r n) (codeOfS r n) (codeOfF r n) = 0 ∧ framesN r (codeOfH r n) (codeOfM r n) (codeOfS r n) (codeOfF r n) = n % dayN r := by
  have hd := day_pos h
  have k0 : 0 ≤ n % dayN r := Int.emod_nonneg _ (by omega)
  have k1 : n % dayN r < dayN r := Int.emod_lt_of_pos _ (by omega)
  obtain ⟨c0, c1⟩ := cnum_range h k0 k1
  unfold codeOfH codeOfM codeOfS codeOfF codeE framesN
  rw [if_neg (by rw [h]; decide)]
  by_cases e : r = 29
  · subst e
    have hd : dayN 29 = 2589408 := rfl
    have hc : cntd 29 = 30 := rfl
    rw [hd] at k0 k1 c0 c1 ⊢
    rw [hc] at c1 ⊢
    generalize n % 2589408 = k at k0 k1 c0 c1 ⊢
    have hcn : cnum 29 k = 18000 * (k / 17982) + k % 17982 + (if 1800 ≤ k % 17982 then 2 * ((k % 17982 - 1800) / 1798 + 1) else 0) := rfl
    by_cases g : 1800 ≤ k % 17982
    · rw [if_pos g] at hcn
      generalize hq : (k % 17982 - 1800) / 1798 = q at hcn
      generalize hw : (k % 17982 - 1800) % 1798 = w
      generalize ht : k / 17982 = t at hcn
      have hk : k % 17982 = 1800 + 1798 * q + w := by omega
      have hk2 : k = 17982 * t + (k % 17982) := by omega
      have hw1 : 0 ≤ w ∧ w < 1798 := by omega
      have hq1 : 0 ≤ q ∧ q ≤ 8 := by omega
      have ht1 : 0 ≤ t ∧ t ≤ 143 := by omega
      rw [hk] at hcn hk2
      generalize cnum 29 k = C at *
      have hC : C = 1800 * (10 * t + q + 1) + (2 + w) := by omega
      have hM : C / 30 / 60 = 10 * t + q + 1 := by omega
      refine ⟨?_, ?_⟩
      · rw [if_neg (by omega), if_neg (by omega)]
      · have e1 : C / 30 / 3600 * 60 + C / 30 / 60 % 60 = C / 30 / 60 := by omega
        have e2 : C / 30 / 60 * 60 + C / 30 % 60 = C / 30 := by omega
        have e3 : C / 30 * 30 + C % 30 = C := by omega
        rw [if_pos rfl, e1, e2, e3, hM]; clear e1 e2 e3 hM; omega
    · rw [if_neg g] at hcn
      generalize ht : k / 17982 = t at hcn
      generalize hr : k % 17982 = s at hcn g
      have hk2 : k = 17982 * t + s := by omega
      have ht1 : 0 ≤ t ∧ t ≤ 143 := by omega
      have hs : 0 ≤ s ∧ s < 1800 := by omega
      generalize cnum 29 k = C at *
      have hM : C / 30 / 60 = 10 * t := by omega
      refine ⟨?_, ?_⟩
      · rw [if_neg (by omega), if_neg (by omega)]
      · have e1 : C / 30 / 3600 * 60 + C / 30 / 60 % 60 = C / 30 / 60 := by omega
        have e2 : C / 30 / 60 * 60 + C / 30 % 60 = C / 30 := by omega
        have e3 : C / 30 * 30 + C % 30 = C := by omega
        rw [if_pos rfl, e1, e2, e3, hM]; clear e1 e2 e3 hM; omega
  · have hd2 : dayN r = 86400 * r := if_neg e
    have hc : cntd r = r := if_neg e
    have hcn : ∀ k, cnum r k = k := fun k => if_neg e
    rw [if_neg e, hc]
    simp only [hcn] at c0 c1 ⊢
    rw [hc] at c1
    generalize n % dayN r = k at *
    rcases rate_in h with rfl | rfl | rfl | rfl | rfl | rfl | rfl
    case inr.inr.inr.inr.inr.inr => exact absurd rfl e
    all_goals
      refine ⟨?_, ?_⟩
      · rw [if_neg (by omega), if_neg (by omega)]
      · omega
theorem code_of_again {r n : Int} : codeOfH r (n % dayN r) = codeOfH r n ∧ codeOfM r (n % dayN r) = codeOfM r n ∧ codeOfS r (n % dayN r) = codeOfS r n ∧ codeOfF r (n % dayN r) = codeOfF r n := by
  have : n % dayN r % dayN r = n % dayN r := Int.emod_emod _ _
  unfold codeOfH codeOfM codeOfS codeOfF
  rw [this]; exact ⟨rfl, rfl, rfl, rfl⟩
theorem back_is {r n : Int} (h : rateB r = true) (h0 : 0 ≤ n) (h1 : n < 2000000) : n % dayN r = n := Int.emod_eq_of_lt h0 (by have := day_pos h; omega)
end

section
open Go.RowKit

theorem code_right {r h m s f : Int} (e : codeE r h m s f = 0) : rateB r = true ∧ 0 ≤ h ∧ h ≤ 23 ∧ 0 ≤ m ∧ m ≤ 59 ∧ 0 ≤ s ∧ s ≤ 59 ∧ 0 ≤ f ∧ f < cntd r := by
  unfold codeE at e
  cases hr : rateB r
  · rw [if_pos hr] at e; omega
  · rw [if_neg (by rw [hr]; decide)] at e
    refine ⟨rfl, ?_⟩
    by_cases hx : h < 0 ∨ 23 < h ∨ m < 0 ∨ 59 < m ∨ s < 0 ∨ 59 < s ∨ f < 0 ∨ cntd r ≤ f
    · rw [if_pos hx] at e; omega
    · omega
theorem counted_bounds {h m s c : Int} (h0 : 0 ≤ h) (h1 : h ≤ 23) (m0 : 0 ≤ m) (m1 : m ≤ 59) (s0 : 0 ≤ s) (s1 : s ≤ 59) (c0 : 24 ≤ c) (c1 : c ≤ 60) :
    0 ≤ ((h * 60 + m) * 60 + s) * c ∧ ((h * 60 + m) * 60 + s) * c ≤ 5183940 := by
  have a : 0 ≤ (h * 60 + m) * 60 + s := by omega
  have b : (h * 60 + m) * 60 + s ≤ 86399 := by omega
  refine ⟨Int.mul_nonneg a (by omega), ?_⟩
  have := Int.mul_le_mul b c1 (by omega) (by omega)
  omega

set_option maxRecDepth 100000 in
set_option maxHeartbeats 4000000 in
theorem conform_Frames_err (r h m s f : Int) (W : World) (E : Int) (hE : codeE r h m s f = E) (hn : E ≠ 0) : Calls Tryz.prog 48 #[.int .i64 r, .agg #[.int .i64 h, .int .i64 m, .int .i64 s, .int .i64 f]] W fun e w' => e = .returned (.tuple #[.int .i64 0, .int .i64 E]) ∧ Below W.heap.size W w' := by
  have d : (E != 0) = true := by simpa using hn
  have HE := Lib.hid hE
  clear hE
  go_enter Tryz.func48, Tryz.ntmps48
  go_upto_region 1 with fail
  refine name_world ?_
  intro w0 hw0
  have x3 : Bx w0 W.heap.size 61 #[.int .i64 h, .int .i64 m, .int .i64 s, .int .i64 f] := by rw [hw0]; exact Bx.new _ _ _
  have B : Below W.heap.size W w0 := by rw [hw0]; exact bnew (Below.refl _ W)
  clear hw0
  obtain ⟨q3, f3, l3⟩ := x3.all
  go_wp2_with fail
  refine (conform_checkCode r h m s f _).mono ?_
  rintro e w1 ⟨rfl, hb1⟩
  replace B := bcall B hb1
  rw [HE.out]
  clear hb1 q3 f3 l3
  go_wp2_with fail
  go_ret2
  exact ⟨rfl, B⟩

set_option maxRecDepth 100000 in
set_option maxHeartbeats 4000000 in
theorem conform_Frames_ok (r h m s f : Int) (W : World) (hE : codeE r h m s f = 0) : Calls Tryz.prog 48 #[.int .i64 r, .agg #[.int .i64 h, .int .i64 m, .int .i64 s, .int .i64 f]] W fun e w' => e = .returned (.tuple #[.int .i64 (framesN r h m s f), .int .i64 0]) ∧ Below W.heap.size W w' := by
  obtain ⟨hr, h0, h1, m0, m1, s0, s1, f0, f1⟩ := code_right hE
  obtain ⟨_, c0, c1⟩ := sec_cntd hr
  obtain ⟨p0, p1⟩ := counted_bounds h0 h1 m0 m1 s0 s1 c0 c1
  have e1 : (h * 60 + m) * 60 + s = 60 * (60 * h + m) + s := by omega
  have e2 : h * 60 + m = 60 * h + m := by omega
  have t0 : (0 : Int) ≤ (60 * h + m) / 10 := by omega
  have t1 : (60 * h + m) / 10 ≤ 200 := by omega
  generalize hres : framesN r h m s f = res
  unfold framesN at hres
  rw [e1, e2] at hres
  rw [e1] at p0 p1
  clear e1 e2
  have Hres := Lib.hid hres
  have HE := Lib.hid hE
  clear hE hres hr
  go_enter Tryz.func48, Tryz.ntmps48
  go_upto_region 1 with fail
  refine name_world ?_
  intro w0 hw0
  have x3 : Bx w0 W.heap.size 61 #[.int .i64 h, .int .i64 m, .int .i64 s, .int .i64 f] := by rw [hw0]; exact Bx.new _ _ _
  have B : Below W.heap.size W w0 := by rw [hw0]; exact bnew (Below.refl _ W)
  clear hw0
  obtain ⟨q3, f3, l3⟩ := x3.all
  go_wp2_with fail
  refine (conform_checkCode r h m s f _).mono ?_
  rintro e w1 ⟨rfl, hb1⟩
  replace x3 := x3.keep hb1
  replace B := bcall B hb1
  rw [HE.out]
  clear hb1 q3 f3 l3
  obtain ⟨q3, f3, l3⟩ := x3.all
  go_wp2_with fail
  go_quiet ((go_at_call 37; exact quiet_same ((conform_counted _ _).mono fun _ _ h => ⟨h.1, h.2.symm⟩)))
  by_cases b1 : r = 29
  · have eb1 : (r == 29) = true := by simpa using b1
    have Hb1 := Lib.hid b1
    clear b1
    go_wp2_with fail
    go_ret2
    refine ⟨?_, below_drewN B _⟩
    rw [← Hres.out, if_pos Hb1.out]; rfl
  · have eb1 : (r == 29) = false := by simpa using b1
    go_wp2_with fail
    go_ret2
    refine ⟨?_, below_drewN B _⟩
    rw [← Hres.out, if_neg b1, Int.sub_zero]; rfl

theorem day_wide {a n : Int} (h1 : -9223372036854775808 ≤ a) (h2 : a ≤ 9223372036854775807) (hn : 2 ≤ n) : -4611686018427387904 ≤ a.tdiv n ∧ a.tdiv n ≤ 4611686018427387904 := by
  have e : (a.tdiv n).natAbs = a.natAbs / n.natAbs := Int.natAbs_tdiv a n
  have l : a.natAbs / n.natAbs ≤ a.natAbs / 2 := Nat.div_le_div_left (by omega) (by omega)
  omega
end
end Go.Proofs.YtemlabmmafcapaaGreatDoor
