/- Regions: the reference's check, growing, the common part. -/
import Derived.Test.YtoffnmpnhddaiaaMem
namespace Go.Proofs.Ytoffnmpnhddaiaa
open Go.RowKit

theorem ref_In_true (a lo hi : Int) (W : World) (h1 : lo ≤ a) (h2 : a ≤ hi) :
    Calls Try.prog 93 #[.int .i64 a, .int .i64 lo, .int .i64 hi] W fun e w' => e = .returned (.bool true) ∧ W = w' := by
  go_enter Try.func93, Try.ntmps93
  go_wp2
  go_ret
  exact ⟨ret_bool (by simp <;> omega), rfl⟩
theorem ref_In_false (a lo hi : Int) (W : World) (h : ¬ (lo ≤ a ∧ a ≤ hi)) :
    Calls Try.prog 93 #[.int .i64 a, .int .i64 lo, .int .i64 hi] W fun e w' => e = .returned (.bool false) ∧ W = w' := by
  by_cases h1 : lo ≤ a
  · have h2 : ¬ a ≤ hi := by omega
    go_enter Try.func93, Try.ntmps93
    go_wp2
    go_ret
    exact ⟨ret_bool (by simp <;> omega), rfl⟩
  · go_enter Try.func93, Try.ntmps93
    go_wp2
    go_ret
    exact ⟨ret_bool (by simp), rfl⟩

theorem checkRegion_zero {x y w h : Int} (hc : checkRegion x y w h = 0) : 1 ≤ w ∧ w ≤ 256 ∧ 1 ≤ h ∧ h ≤ 256 ∧ w * h ≤ 16384 ∧ -1048576 ≤ x ∧ x ≤ 1048576 - w ∧ -1048576 ≤ y ∧ y ≤ 1048576 - h := by
  unfold checkRegion at hc
  split at hc
  · omega
  · split at hc
    · omega
    · split at hc
      · omega
      · simp [outB] at *
        omega

set_option maxRecDepth 100000 in
set_option maxHeartbeats 1000000 in
set_option maxRecDepth 100000 in
theorem ref_RegionError (x y w h : Int) (W : World) :
    Calls Try.prog 31 #[.agg #[.int .i64 x, .int .i64 y, .int .i64 w, .int .i64 h]] W fun e w' => e = .returned (.int .i64 (checkRegion x y w h)) ∧ Below W.heap.size W w' := by
  by_cases hw : 1 ≤ w ∧ w ≤ 256
  · by_cases hh : 1 ≤ h ∧ h ≤ 256
    · obtain ⟨w1, w2⟩ := hw
      obtain ⟨h1, h2⟩ := hh
      have hwr := wrap_mul w h w1 w2 h1 h2
      go_enter Try.func31, Try.ntmps31
      go_wp2_with (go_at_call 93; refine (ref_In_true _ _ _ _ (by omega) (by omega)).mono ?_; rintro e w' ⟨rfl, rfl⟩)
      all_goals go_ret
      all_goals refine ⟨ret_int ?_, (Below.refl _ _).alloc (Nat.le_refl _) _⟩
      all_goals unfold checkRegion
      all_goals rw [if_neg (by omega)]
      all_goals simp only [outB, Bool.or_eq_true, decide_eq_true_eq]
      all_goals clear hwr
      all_goals (split <;> first | omega | (split <;> omega))
    · go_enter Try.func31, Try.ntmps31
      go_wp2_with (first
        | (go_at_call 93; refine (ref_In_true _ _ _ _ (by omega) (by omega)).mono ?_; rintro e w' ⟨rfl, rfl⟩)
        | (go_at_call 93; refine (ref_In_false _ _ _ _ (by omega)).mono ?_; rintro e w' ⟨rfl, rfl⟩))
      all_goals go_ret
      all_goals refine ⟨ret_int ?_, (Below.refl _ _).alloc (Nat.le_refl _) _⟩
      all_goals (unfold checkRegion; rw [if_pos (by omega)])
  · go_enter Try.func31, Try.ntmps31
    go_wp2_with (go_at_call 93; refine (ref_In_false _ _ _ _ (by omega)).mono ?_; rintro e w' ⟨rfl, rfl⟩)
    all_goals go_ret
    all_goals refine ⟨ret_int ?_, (Below.refl _ _).alloc (Nat.le_refl _) _⟩
    all_goals (unfold checkRegion; rw [if_pos (by omega)])

/-- Four integers as a region's value. -/
def rgV (r : Int × Int × Int × Int) : Value := .agg #[.int .i64 r.1, .int .i64 r.2.1, .int .i64 r.2.2.1, .int .i64 r.2.2.2]
def rg0 : Int × Int × Int × Int := (0, 0, 0, 0)

/-- What growing answers. -/
def growOf (x y w h n : Int) : (Int × Int × Int × Int) × Int :=
  if checkRegion x y w h = 0 then
    if n < -256 ∨ 256 < n then (rg0, 3)
    else if checkRegion (x - n) (y - n) (w + 2 * n) (h + 2 * n) = 0 then ((x - n, y - n, w + 2 * n, h + 2 * n), 0)
    else (rg0, checkRegion (x - n) (y - n) (w + 2 * n) (h + 2 * n))
  else (rg0, checkRegion x y w h)

theorem name_callw {P : Program} {f : FuncId} {args : Array Value} {w0 : World} {Q : Ending → World → Prop} (h : ∀ wb, wb = w0 → Calls P f args wb Q) : Calls P f args w0 Q := h _ rfl

theorem ref_grown (x y w h n : Int) (W : World) (a1 : -4000000 ≤ x) (a2 : x ≤ 4000000) (a3 : -4000000 ≤ y) (a4 : y ≤ 4000000) (a5 : -4000000 ≤ w) (a6 : w ≤ 4000000) (a7 : -4000000 ≤ h) (a8 : h ≤ 4000000) (a9 : -4000000 ≤ n) (b9 : n ≤ 4000000) :
    Calls Try.prog 95 #[.agg #[.int .i64 x, .int .i64 y, .int .i64 w, .int .i64 h], .int .i64 n] W fun e w' =>
      e = .returned (.agg #[.int .i64 (x - n), .int .i64 (y - n), .int .i64 (w + 2 * n), .int .i64 (h + 2 * n)]) ∧ Below W.heap.size W w' := by
  go_enter Try.func95, Try.ntmps95
  go_wp2_with fail
  refine bodyPost_ret (v := .agg #[.int .i64 (x - n), .int .i64 (y - n), .int .i64 (w + 2 * n), .int .i64 (h + 2 * n)]) (by simp [results, Try.results95, go_sem]) rfl ⟨rfl, ?_⟩
  exact bnew (bnew (Below.refl _ W))

set_option maxRecDepth 100000 in
set_option maxHeartbeats 1000000 in
theorem frame_Grow (x y w h n : Int) (W : World) :
    Calls Try.prog 33 #[.agg #[.int .i64 x, .int .i64 y, .int .i64 w, .int .i64 h], .int .i64 n] W fun e w' =>
      e = .returned (.tuple #[rgV (growOf x y w h n).1, .int .i64 (growOf x y w h n).2]) ∧ Below W.heap.size W w' := by
  obtain ⟨k, h0⟩ : ∃ k, checkRegion x y w h = k := ⟨_, rfl⟩
  by_cases hk : k = 0
  · subst hk
    obtain ⟨a1, a2, a3, a4, a5, a6, a7, a8, a9⟩ := checkRegion_zero h0
    by_cases hn : n < -256 ∨ 256 < n
    · have hg : growOf x y w h n = (rg0, 3) := by unfold growOf; rw [if_pos h0, if_pos hn]
      rw [hg]
      clear a1 a2 a3 a4 a5 a6 a7 a8 a9 hg
      go_enter Try.func33, Try.ntmps33
      go_wp2_with fail
      refine (frame_CheckRegion _ _ _ _ _).mono ?_
      rw [h0]
      rintro e w1 ⟨rfl, hb1⟩
      have x1 := (Bx.at (W.heap.size + 1) (by simp)).keep hb1
      have B1 := bcall (bnew (bnew (Below.refl _ W))) hb1
      clear hb1 h0
      obtain ⟨q1, f1, l1⟩ := x1.all
      go_wp2_with fail
      all_goals first
        | omega
        | exact bodyPost_ret (v := .tuple #[rgV rg0, .int .i64 3]) (by simp [results, Try.results33, go_sem, q1, rgV, rg0]) rfl ⟨rfl, bput (by omega) (bput (by omega) (bput (by omega) (bput (by omega) B1)))⟩
    · obtain ⟨k2, h1⟩ : ∃ k, checkRegion (x - n) (y - n) (w + 2 * n) (h + 2 * n) = k := ⟨_, rfl⟩
      have n1 : ¬ (n < -256) := by omega
      have n2 : ¬ (256 < n) := by omega
      by_cases hk2 : k2 = 0
      all_goals
        first
          | (have hg : growOf x y w h n = ((x - n, y - n, w + 2 * n, h + 2 * n), 0) := by
               unfold growOf; rw [if_pos h0, if_neg hn, if_pos (h1.trans hk2)]
             rw [hg]
             clear hg hn)
          | (have hg : growOf x y w h n = (rg0, k2) := by
               unfold growOf; rw [if_pos h0, if_neg hn, if_neg (by rw [h1]; exact hk2), h1]
             rw [hg]
             clear hg hn)
        go_enter Try.func33, Try.ntmps33
        go_wp2_with fail
        refine (frame_CheckRegion _ _ _ _ _).mono ?_
        rw [h0]
        rintro e w1 ⟨rfl, hb1⟩
        have x0 := ((Bx.new W _ _).alloc _).keep hb1
        have x1 := (Bx.at (W.heap.size + 1) (by simp)).keep hb1
        have B1 := bcall (bnew (bnew (Below.refl _ W))) hb1
        clear hb1 h0
        obtain ⟨q0, f0, l0⟩ := x0.all
        obtain ⟨q1, f1, l1⟩ := x1.all
        go_wp2_with fail
        all_goals (try omega)
        refine name_callw ?_
        intro w2 hw2
        obtain ⟨z0, on0⟩ := set4 x0 (.int .i64 (x - n)) (.int .i64 (y - n)) (.int .i64 (w + 2 * n)) (.int .i64 (h + 2 * n))
        have z1 := on0.bx (by omega) x1
        have B2 := bonly B1 on0 (by omega)
        rw [← hw2] at z0 z1 B2
        clear hw2 on0 x0 x1 B1 q0 f0 l0 q1 f1 l1
        refine (frame_CheckRegion _ _ _ _ _).mono ?_
        rw [h1]
        rintro e w4 ⟨rfl, hb4⟩
        have y0 := z0.keep hb4
        have y1 := z1.keep hb4
        have B4 := bcall B2 hb4
        clear hb4 z0 z1 h1
        obtain ⟨q0, f0, l0⟩ := y0.all
        obtain ⟨q1, f1, l1⟩ := y1.all
        clear a1 a2 a3 a4 a5 a6 a7 a8 a9 n1 n2
        go_wp2_with fail
        all_goals first
          | omega
          | exact bodyPost_ret (v := .tuple #[rgV rg0, .int .i64 k2]) (by simp [results, Try.results33, go_sem, q1, rgV, rg0]) rfl ⟨rfl, bput (by omega) (bput (by omega) (bput (by omega) (bput (by omega) B4)))⟩
          | exact bodyPost_ret (v := .tuple #[rgV (x - n, y - n, w + 2 * n, h + 2 * n), .int .i64 0]) (by simp [results, Try.results33, go_sem, q1, rgV]) rfl ⟨rfl, bput (by omega) (bput (by omega) (bput (by omega) (bput (by omega) B4)))⟩
  · have hg : growOf x y w h n = (rg0, k) := by unfold growOf; rw [if_neg (by rw [h0]; exact hk), h0]
    rw [hg]
    clear hg
    go_enter Try.func33, Try.ntmps33
    go_wp2_with fail
    refine (frame_CheckRegion _ _ _ _ _).mono ?_
    rw [h0]
    rintro e w1 ⟨rfl, hb1⟩
    have x1 := (Bx.at (W.heap.size + 1) (by simp)).keep hb1
    have B1 := bcall (bnew (bnew (Below.refl _ W))) hb1
    clear hb1 h0
    obtain ⟨q1, f1, l1⟩ := x1.all
    go_wp2_with fail
    all_goals first
      | omega
      | exact bodyPost_ret (v := .tuple #[rgV rg0, .int .i64 k]) (by simp [results, Try.results33, go_sem, q1, rgV, rg0]) rfl ⟨rfl, bput (by omega) (bput (by omega) (bput (by omega) (bput (by omega) B1)))⟩

set_option maxRecDepth 100000 in
set_option maxHeartbeats 1000000 in
theorem ref_Grow (x y w h n : Int) (W : World) :
    Calls Try.prog 34 #[.agg #[.int .i64 x, .int .i64 y, .int .i64 w, .int .i64 h], .int .i64 n] W fun e w' =>
      e = .returned (.tuple #[rgV (growOf x y w h n).1, .int .i64 (growOf x y w h n).2]) ∧ Below W.heap.size W w' := by
  obtain ⟨k, h0⟩ : ∃ k, checkRegion x y w h = k := ⟨_, rfl⟩
  by_cases hk : k = 0
  · subst hk
    obtain ⟨a1, a2, a3, a4, a5, a6, a7, a8, a9⟩ := checkRegion_zero h0
    by_cases hn : n < -256 ∨ 256 < n
    · have hg : growOf x y w h n = (rg0, 3) := by unfold growOf; rw [if_pos h0, if_pos hn]
      rw [hg]
      clear a1 a2 a3 a4 a5 a6 a7 a8 a9 hg
      go_enter Try.func34, Try.ntmps34
      go_wp2_with fail
      refine (ref_RegionError _ _ _ _ _).mono ?_
      rw [h0]
      rintro e w1 ⟨rfl, hb1⟩
      have x1 := (Bx.at (W.heap.size + 1) (by simp)).keep hb1
      have B1 := bcall (bnew (bnew (Below.refl _ W))) hb1
      clear hb1 h0
      obtain ⟨q1, f1, l1⟩ := x1.all
      go_wp2_with fail
      all_goals first
        | omega
        | exact bodyPost_ret (v := .tuple #[rgV rg0, .int .i64 3]) (by simp [results, Try.results34, go_sem, q1, rgV, rg0]) rfl ⟨rfl, bput (by omega) (bput (by omega) (bput (by omega) (bput (by omega) B1)))⟩
    · obtain ⟨k2, h1⟩ : ∃ k, checkRegion (x - n) (y - n) (w + 2 * n) (h + 2 * n) = k := ⟨_, rfl⟩
      have n1 : ¬ (n < -256) := by omega
      have n2 : ¬ (256 < n) := by omega
      by_cases hk2 : k2 = 0
      all_goals
        first
          | (have hg : growOf x y w h n = ((x - n, y - n, w + 2 * n, h + 2 * n), 0) := by
               unfold growOf; rw [if_pos h0, if_neg hn, if_pos (h1.trans hk2)]
             rw [hg]
             clear hg hn)
          | (have hg : growOf x y w h n = (rg0, k2) := by
               unfold growOf; rw [if_pos h0, if_neg hn, if_neg (by rw [h1]; exact hk2), h1]
             rw [hg]
             clear hg hn)
        go_enter Try.func34, Try.ntmps34
        go_wp2_with fail
        refine (ref_RegionError _ _ _ _ _).mono ?_
        rw [h0]
        rintro e w1 ⟨rfl, hb1⟩
        have x0 := ((Bx.new W _ _).alloc _).keep hb1
        have x1 := (Bx.at (W.heap.size + 1) (by simp)).keep hb1
        have B1 := bcall (bnew (bnew (Below.refl _ W))) hb1
        clear hb1 h0
        obtain ⟨q0, f0, l0⟩ := x0.all
        obtain ⟨q1, f1, l1⟩ := x1.all
        go_wp2_with fail
        all_goals (try omega)
        refine (ref_grown _ _ _ _ _ _ (by omega) (by omega) (by omega) (by omega) (by omega) (by omega) (by omega) (by omega) (by omega) (by omega)).mono ?_
        rintro e w3 ⟨rfl, hb3⟩
        have y1 := x1.keep hb3
        have B3 := bcall B1 hb3
        clear hb3 x0 x1 B1 q0 f0 l0 q1 f1 l1
        go_wp2_with fail
        refine name_callw ?_
        intro w2 hw2
        have z0 := Bx.new w3 23 #[.int .i64 (x - n), .int .i64 (y - n), .int .i64 (w + 2 * n), .int .i64 (h + 2 * n)]
        have z1 := y1.alloc (.cells #[.int .i64 (x - n), .int .i64 (y - n), .int .i64 (w + 2 * n), .int .i64 (h + 2 * n)] 23)
        have B2 := bnew (ob := .cells #[.int .i64 (x - n), .int .i64 (y - n), .int .i64 (w + 2 * n), .int .i64 (h + 2 * n)] 23) B3
        rw [← hw2] at z0 z1 B2
        clear hw2 y1 B3
        generalize w3.heap.size = g3 at *
        refine (ref_RegionError _ _ _ _ _).mono ?_
        rw [h1]
        rintro e w4 ⟨rfl, hb4⟩
        have y0 := z0.keep hb4
        have y1 := z1.keep hb4
        have B4 := bcall B2 hb4
        clear hb4 z0 z1 h1
        obtain ⟨q0, f0, l0⟩ := y0.all
        obtain ⟨q1, f1, l1⟩ := y1.all
        clear a1 a2 a3 a4 a5 a6 a7 a8 a9 n1 n2
        go_wp2_with fail
        all_goals first
          | omega
          | exact bodyPost_ret (v := .tuple #[rgV rg0, .int .i64 k2]) (by simp [results, Try.results34, go_sem, q1, rgV, rg0]) rfl ⟨rfl, bput (by omega) (bput (by omega) (bput (by omega) (bput (by omega) B4)))⟩
          | exact bodyPost_ret (v := .tuple #[rgV (x - n, y - n, w + 2 * n, h + 2 * n), .int .i64 0]) (by simp [results, Try.results34, go_sem, q1, rgV]) rfl ⟨rfl, bput (by omega) (bput (by omega) (bput (by omega) (bput (by omega) B4)))⟩
  · have hg : growOf x y w h n = (rg0, k) := by unfold growOf; rw [if_neg (by rw [h0]; exact hk), h0]
    rw [hg]
    clear hg
    go_enter Try.func34, Try.ntmps34
    go_wp2_with fail
    refine (ref_RegionError _ _ _ _ _).mono ?_
    rw [h0]
    rintro e w1 ⟨rfl, hb1⟩
    have x1 := (Bx.at (W.heap.size + 1) (by simp)).keep hb1
    have B1 := bcall (bnew (bnew (Below.refl _ W))) hb1
    clear hb1 h0
    obtain ⟨q1, f1, l1⟩ := x1.all
    go_wp2_with fail
    all_goals first
      | omega
      | exact bodyPost_ret (v := .tuple #[rgV rg0, .int .i64 k]) (by simp [results, Try.results34, go_sem, q1, rgV, rg0]) rfl ⟨rfl, bput (by omega) (bput (by omega) (bput (by omega) (bput (by omega) B1)))⟩
end Go.Proofs.Ytoffnmpnhddaiaa
