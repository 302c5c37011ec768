/- scope.Changed and what it calls. -/
import Derived.Test.YtlfcedecobebmaaFit
import Derived.BigGuardPart
namespace Go.Proofs.Ytlfcedecobebmaa
open Go.RowKit

theorem checkRegion_of {x y w h : Int} (h1 : 1 ≤ w) (h2 : w ≤ 256) (h3 : 1 ≤ h) (h4 : h ≤ 256) (h5 : w * h ≤ 16384) (h6 : -1048576 ≤ x) (h7 : x ≤ 1048576 - w) (h8 : -1048576 ≤ y) (h9 : y ≤ 1048576 - h) : checkRegion x y w h = 0 := by
  unfold checkRegion
  rw [if_neg (by omega), if_neg (by omega), if_neg (by simp [outB]; omega)]
def checkFrame (x y w h : Int) (n : Nat) : Int := if checkRegion x y w h = 0 then (if (n : Int) = 4 * w * h then 0 else 2) else checkRegion x y w h

theorem checkRegion_ok {x y w h : Int} (h0 : checkRegion x y w h = 0) : 1 ≤ w ∧ w ≤ 256 ∧ 1 ≤ h ∧ h ≤ 256 ∧ w * h ≤ 16384 ∧ -1048576 ≤ x ∧ x ≤ 1048576 - w ∧ -1048576 ≤ y ∧ y ≤ 1048576 - h := by
  unfold checkRegion at h0
  split at h0
  · omega
  · rename_i h1
    split at h0
    · omega
    · rename_i h2
      split at h0
      · omega
      · rename_i h3
        simp [outB] at h3
        omega

theorem checkFrame_of {x y w h : Int} {n : Nat} (h0 : checkRegion x y w h = 0) (hn : (n : Int) = 4 * w * h) : checkFrame x y w h n = 0 := by simp [checkFrame, h0, hn]
theorem fitted_ok {x y w h : Int} (h1 : 1 ≤ w) (h2 : w ≤ 8) (h3 : 1 ≤ h) (h4 : h ≤ 8) (h5 : -1000 ≤ x) (h6 : x ≤ 1000) (h7 : -1000 ≤ y) (h8 : y ≤ 1000) : checkRegion x y w h = 0 := by
  have := Int.mul_le_mul h2 h4 (by omega) (by omega)
  exact checkRegion_of h1 (by omega) h3 (by omega) (by omega) (by omega) (by omega) (by omega) (by omega)
/-- As many pixels. -/
theorem four_of {w h : Int} {N : Nat} (hN : (N : Int) = 4 * w * h) : ∃ M : Nat, (M : Int) = w * h ∧ N = 4 * M := by
  rw [Int.mul_assoc] at hN
  exact ⟨(w * h).toNat, by omega, by omega⟩

set_option maxRecDepth 100000 in
theorem frame_Check (x y w h : Int) (a : Option Addr) (n c : Nat) (W : World) (_hn : n ≤ maxLen) :
    Calls Try.prog 25 #[.agg #[.int .i64 x, .int .i64 y, .int .i64 w, .int .i64 h, .slice a n c]] W fun e w' => e = .returned (.int .i64 (checkFrame x y w h n)) ∧ Below W.heap.size W w' := by
  cases hc : (checkRegion x y w h != 0)
  · have h0 : checkRegion x y w h = 0 := by simpa using hc
    obtain ⟨b1, b2, b3, b4, _⟩ := checkRegion_ok h0
    obtain ⟨N, hN, HN, hN1, hN2⟩ := mul4 w h b1 b3 b2 b4
    have HidN := Lib.hid hN
    have H0 := Lib.hid h0
    clear hN h0
    by_cases hnn : n = N
    · subst hnn
      go_enter Try.func25, Try.ntmps25
      go_wp2_with (go_at_call 43; refine (frame_CheckRegion _ _ _ _ _).mono ?_; rintro e w' ⟨rfl, hb1⟩; obtain ⟨c0, f0⟩ := bat hb1 W.heap.size (by simp))
      go_ret
      exact ⟨ret_int (by simp [checkFrame, H0.out, HidN.out]), ((Below.refl _ _).alloc (Nat.le_refl _) _).trans (hb1.mono (by simp))⟩
    · have hne : ¬ ((n : Int) = (N : Int)) := by omega
      go_enter Try.func25, Try.ntmps25
      go_wp2_with (go_at_call 43; refine (frame_CheckRegion _ _ _ _ _).mono ?_; rintro e w' ⟨rfl, hb1⟩; obtain ⟨c0, f0⟩ := bat hb1 W.heap.size (by simp))
      go_ret
      exact ⟨ret_int (by simp [checkFrame, H0.out, HidN.out, hne]), ((Below.refl _ _).alloc (Nat.le_refl _) _).trans (hb1.mono (by simp))⟩
  · go_enter Try.func25, Try.ntmps25
    go_wp2_with (go_at_call 43; refine (frame_CheckRegion _ _ _ _ _).mono ?_; rintro e w' ⟨rfl, hb1⟩; obtain ⟨c0, f0⟩ := bat hb1 W.heap.size (by simp))
    go_ret
    have h0 : ¬ checkRegion x y w h = 0 := by simpa using hc
    exact ⟨ret_int (by simp [checkFrame, h0]), ((Below.refl _ _).alloc (Nat.le_refl _) _).trans (hb1.mono (by simp))⟩

/-- What Changed knows after k pixels: how many differ, and their bounds. -/
def chTo (w h : Int) (same : Nat → Bool) : Nat → Int × Int × Int × Int × Int
  | 0 => (0, w, h, 0, 0)
  | k + 1 =>
    let (m, l, t, r, b) := chTo w h same k
    if same k then (m, l, t, r, b) else (m + 1, imin l ((k : Int) % w), imin t ((k : Int) / w), imax r ((k : Int) % w + 1), imax b ((k : Int) / w + 1))
def samePix (xs ys : List Nat) (k : Nat) (c : Nat) : Bool := canon (xs.getD (4 * k + c) 0) == canon (ys.getD (4 * k + c) 0)
def sameTo (xs ys : List Nat) (k : Nat) : Nat → Bool
  | 0 => true
  | c + 1 => sameTo xs ys k c && samePix xs ys k c

def changed (x y w h : Int) (xs ys : List Nat) (M : Nat) : Value :=
  match chTo w h (fun k => sameTo xs ys k 4) M with
  | (m, l, t, r, b) => if m = 0 then .tuple #[.agg #[.int .i64 0, .int .i64 0, .int .i64 0, .int .i64 0], .int .i64 0, .int .i64 0]
    else .tuple #[.agg #[.int .i64 (x + l), .int .i64 (y + t), .int .i64 (r - l), .int .i64 (b - t)], .int .i64 m, .int .i64 0]

end Go.Proofs.Ytlfcedecobebmaa
