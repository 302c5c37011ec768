/- Codes and numbers: conform.Frames, CodeOf and the reference's, walked. -/
import Derived.Test.YtjicgbpnplmpbaaDoorCdP
namespace Go.Proofs.YtjicgbpnplmpbaaDoor
open Go.RowKit

theorem code_right {r h m s f : Int} (e : codeE r h m s f = 0) : rateB r = true ∧ 0 ≤ h ∧ h ≤ 23 ∧ 0 ≤ m ∧ m ≤ 59 ∧ 0 ≤ s ∧ s ≤ 59 ∧ 0 ≤ f ∧ f < cntd r := by
  unfold codeE at e
  cases hr : rateB r
  · rw [if_pos hr] at e; omega
  · rw [if_neg (by rw [hr]; decide)] at e
    refine ⟨rfl, ?_⟩
    by_cases hx : h < 0 ∨ 23 < h ∨ m < 0 ∨ 59 < m ∨ s < 0 ∨ 59 < s ∨ f < 0 ∨ cntd r ≤ f
    · rw [if_pos hx] at e; omega
    · omega
theorem counted_bounds {h m s c : Int} (h0 : 0 ≤ h) (h1 : h ≤ 23) (m0 : 0 ≤ m) (m1 : m ≤ 59) (s0 : 0 ≤ s) (s1 : s ≤ 59) (c0 : 24 ≤ c) (c1 : c ≤ 60) :
    0 ≤ ((h * 60 + m) * 60 + s) * c ∧ ((h * 60 + m) * 60 + s) * c ≤ 5183940 := by
  have a : 0 ≤ (h * 60 + m) * 60 + s := by omega
  have b : (h * 60 + m) * 60 + s ≤ 86399 := by omega
  refine ⟨Int.mul_nonneg a (by omega), ?_⟩
  have := Int.mul_le_mul b c1 (by omega) (by omega)
  omega

set_option maxRecDepth 100000 in
set_option maxHeartbeats 4000000 in
theorem conform_Frames_err (r h m s f : Int) (W : World) (E : Int) (hE : codeE r h m s f = E) (hn : E ≠ 0) : Calls Tryd.prog 26 #[.int .i64 r, .agg #[.int .i64 h, .int .i64 m, .int .i64 s, .int .i64 f]] W fun e w' => e = .returned (.tuple #[.int .i64 0, .int .i64 E]) ∧ Below W.heap.size W w' := by
  have d : (E != 0) = true := by simpa using hn
  have HE := Lib.hid hE
  clear hE
  go_enter Tryd.func26, Tryd.ntmps26
  go_upto_region 1 with fail
  refine name_world ?_
  intro w0 hw0
  have x3 : Bx w0 W.heap.size 59 #[.int .i64 h, .int .i64 m, .int .i64 s, .int .i64 f] := by rw [hw0]; exact Bx.new _ _ _
  have B : Below W.heap.size W w0 := by rw [hw0]; exact bnew (Below.refl _ W)
  clear hw0
  obtain ⟨q3, f3, l3⟩ := x3.all
  go_wp2_with fail
  refine (conform_checkCode r h m s f _).mono ?_
  rintro e w1 ⟨rfl, hb1⟩
  replace B := bcall B hb1
  rw [HE.out]
  clear hb1 q3 f3 l3
  go_wp2_with fail
  go_ret2
  exact ⟨rfl, B⟩

set_option maxRecDepth 100000 in
set_option maxHeartbeats 4000000 in
theorem conform_Frames_ok (r h m s f : Int) (W : World) (hE : codeE r h m s f = 0) : Calls Tryd.prog 26 #[.int .i64 r, .agg #[.int .i64 h, .int .i64 m, .int .i64 s, .int .i64 f]] W fun e w' => e = .returned (.tuple #[.int .i64 (framesN r h m s f), .int .i64 0]) ∧ Below W.heap.size W w' := by
  obtain ⟨hr, h0, h1, m0, m1, s0, s1, f0, f1⟩ := code_right hE
  obtain ⟨_, c0, c1⟩ := sec_cntd hr
  obtain ⟨p0, p1⟩ := counted_bounds h0 h1 m0 m1 s0 s1 c0 c1
  have e1 : (h * 60 + m) * 60 + s = 60 * (60 * h + m) + s := by omega
  have e2 : h * 60 + m = 60 * h + m := by omega
  have t0 : (0 : Int) ≤ (60 * h + m) / 10 := by omega
  have t1 : (60 * h + m) / 10 ≤ 200 := by omega
  generalize hres : framesN r h m s f = res
  unfold framesN at hres
  rw [e1, e2] at hres
  rw [e1] at p0 p1
  clear e1 e2
  have Hres := Lib.hid hres
  have HE := Lib.hid hE
  clear hE hres hr
  go_enter Tryd.func26, Tryd.ntmps26
  go_upto_region 1 with fail
  refine name_world ?_
  intro w0 hw0
  have x3 : Bx w0 W.heap.size 59 #[.int .i64 h, .int .i64 m, .int .i64 s, .int .i64 f] := by rw [hw0]; exact Bx.new _ _ _
  have B : Below W.heap.size W w0 := by rw [hw0]; exact bnew (Below.refl _ W)
  clear hw0
  obtain ⟨q3, f3, l3⟩ := x3.all
  go_wp2_with fail
  refine (conform_checkCode r h m s f _).mono ?_
  rintro e w1 ⟨rfl, hb1⟩
  replace x3 := x3.keep hb1
  replace B := bcall B hb1
  rw [HE.out]
  clear hb1 q3 f3 l3
  obtain ⟨q3, f3, l3⟩ := x3.all
  go_wp2_with fail
  go_quiet ((go_at_call 68; exact quiet_same ((conform_counted _ _).mono fun _ _ h => ⟨h.1, h.2.symm⟩)))
  by_cases b1 : r = 29
  · have eb1 : (r == 29) = true := by simpa using b1
    have Hb1 := Lib.hid b1
    clear b1
    go_wp2_with fail
    go_ret2
    refine ⟨?_, below_drewN B _⟩
    rw [← Hres.out, if_pos Hb1.out]; rfl
  · have eb1 : (r == 29) = false := by simpa using b1
    go_wp2_with fail
    go_ret2
    refine ⟨?_, below_drewN B _⟩
    rw [← Hres.out, if_neg b1, Int.sub_zero]; rfl

set_option maxRecDepth 100000 in
set_option maxHeartbeats 4000000 in
theorem ref_Frames (r h m s f : Int) (W : World) (hE : codeE r h m s f = 0) : Calls Tryd.prog 29 #[.int .i64 r, .agg #[.int .i64 h, .int .i64 m, .int .i64 s, .int .i64 f]] W fun e w' => e = .returned (.int .i64 (framesN r h m s f)) ∧ Below W.heap.size W w' := by
  obtain ⟨hr, h0, h1, m0, m1, s0, s1, f0, f1⟩ := code_right hE
  obtain ⟨c2, c0, c1⟩ := sec_cntd hr
  obtain ⟨p0, p1⟩ := counted_bounds h0 h1 m0 m1 s0 s1 c0 c1
  have t0 : (0 : Int) ≤ (h * 60 + m) / 10 := by omega
  have t1 : (h * 60 + m) / 10 ≤ 200 := by omega
  generalize hres : framesN r h m s f = res
  unfold framesN at hres
  have Hres := Lib.hid hres
  clear hE hres hr
  go_enter Tryd.func29, Tryd.ntmps29
  go_upto_region 1 with fail
  refine name_world ?_
  intro w0 hw0
  have x3 : Bx w0 W.heap.size 59 #[.int .i64 h, .int .i64 m, .int .i64 s, .int .i64 f] := by rw [hw0]; exact Bx.new _ _ _
  have B : Below W.heap.size W w0 := by rw [hw0]; exact bnew (Below.refl _ W)
  clear hw0
  obtain ⟨q3, f3, l3⟩ := x3.all
  go_wp2_with fail
  refine (ref_second r _).mono ?_
  rintro e w1 ⟨rfl, rfl⟩
  rw [c2]
  clear c2
  by_cases b1 : r = 29
  · have eb1 : (r == 29) = true := by simpa using b1
    have Hb1 := Lib.hid b1
    clear b1
    go_wp2_with fail
    go_ret
    refine ⟨?_, B⟩
    rw [← Hres.out, if_pos Hb1.out]; rfl
  · have eb1 : (r == 29) = false := by simpa using b1
    go_wp2_with fail
    go_ret
    refine ⟨?_, B⟩
    rw [← Hres.out, if_neg b1, Int.sub_zero]; rfl

theorem day_wide {a n : Int} (h1 : -9223372036854775808 ≤ a) (h2 : a ≤ 9223372036854775807) (hn : 2 ≤ n) : -4611686018427387904 ≤ a.tdiv n ∧ a.tdiv n ≤ 4611686018427387904 := by
  have e : (a.tdiv n).natAbs = a.natAbs / n.natAbs := Int.natAbs_tdiv a n
  have l : a.natAbs / n.natAbs ≤ a.natAbs / 2 := Nat.div_le_div_left (by omega) (by omega)
  omega
set_option maxHeartbeats 400000 in
theorem ref_quotient' (a n : Int) (W : World) (hn : 2 ≤ n) (h1 : -9223372036854775808 ≤ a) (h2 : a ≤ 9223372036854775807) (hn2 : n ≤ 1000000000) :
    Calls Tryd.prog 72 #[.int .i64 a, .int .i64 n] W fun e w' => e = .returned (.tuple #[.int .i64 (a / n), .int .i64 (a % n)]) ∧ Below W.heap.size W w' := by
  have hr1 := Int.tmod_lt_of_pos a (show 0 < n by omega)
  have hr2 := Int.lt_tmod_of_pos a (show 0 < n by omega)
  obtain ⟨p1, p2⟩ := day_wide h1 h2 hn
  have hd1 : a.tmod n < 0 → a / n = a.tdiv n - 1 ∧ a % n = a.tmod n + n := by
    intro hlt
    have hm := Int.mul_tdiv_add_tmod a n
    have : a = (a.tmod n + n) + (a.tdiv n - 1) * n := by
      have : (a.tdiv n - 1) * n = n * a.tdiv n - n := by rw [Int.sub_mul, Int.one_mul, Int.mul_comm]
      omega
    have hh := Int.ediv_emod_unique (a := a) (b := n) (q := a.tdiv n - 1) (r := a.tmod n + n) (by omega)
    have := hh.2 ⟨by rw [Int.mul_comm]; omega, by omega, by omega⟩
    exact this
  have hd2 : 0 ≤ a.tmod n → a / n = a.tdiv n ∧ a % n = a.tmod n := by
    intro hge
    have hm := Int.mul_tdiv_add_tmod a n
    have hh := Int.ediv_emod_unique (a := a) (b := n) (q := a.tdiv n) (r := a.tmod n) (by omega)
    exact hh.2 ⟨by omega, by omega, by omega⟩
  by_cases hr0 : a.tmod n < 0
  · obtain ⟨e1, e2⟩ := hd1 hr0
    rw [e1, e2]
    clear hd1 hd2 e1 e2
    go_enter Tryd.func72, Tryd.ntmps72
    go_wp2_with fail
    go_region
    all_goals go_wp2_with fail
    all_goals go_ret2
    all_goals exact ⟨rfl, (Below.refl _ W).drew⟩
  · obtain ⟨e1, e2⟩ := hd2 (by omega)
    rw [e1, e2]
    clear hd1 hd2 e1 e2
    go_enter Tryd.func72, Tryd.ntmps72
    go_wp2_with fail
    go_region
    all_goals go_wp2_with fail
    all_goals go_ret2
    all_goals exact ⟨rfl, (Below.refl _ W).drew⟩
end Go.Proofs.YtjicgbpnplmpbaaDoor
