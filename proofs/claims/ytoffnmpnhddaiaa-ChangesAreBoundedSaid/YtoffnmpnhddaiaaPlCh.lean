/- What Changed finds: plain facts. -/
import Derived.Test.YtoffnmpnhddaiaaChg
import Derived.Test.YtoffnmpnhddaiaaPix
namespace Go.Proofs.Ytoffnmpnhddaiaa
open Go.RowKit

theorem chTo_succ (w h : Int) (same : Nat → Bool) (k : Nat) (m l t r b : Int) (hc : chTo w h same k = (m, l, t, r, b)) :
    chTo w h same (k + 1) = if same k then (m, l, t, r, b) else (m + 1, imin l ((k : Int) % w), imin t ((k : Int) / w), imax r ((k : Int) % w + 1), imax b ((k : Int) / w + 1)) := by
  rw [chTo, hc]

theorem chTo_inv (w h : Int) (same : Nat → Bool) (M : Nat) (hw : 1 ≤ w) (hh : 1 ≤ h) (hM : (M : Int) = w * h) (k : Nat) : k ≤ M → ∃ m l t r b, chTo w h same k = (m, l, t, r, b) ∧ 0 ≤ m ∧ m ≤ k ∧ 0 ≤ l ∧ l ≤ w ∧ 0 ≤ t ∧ t ≤ h ∧ 0 ≤ r ∧ r ≤ w ∧ 0 ≤ b ∧ b ≤ h ∧
    ∀ j : Nat, j < k → same j = false → l ≤ (j : Int) % w ∧ (j : Int) % w + 1 ≤ r ∧ t ≤ (j : Int) / w ∧ (j : Int) / w + 1 ≤ b ∧ 1 ≤ m := by
  induction k with
  | zero => intro _; exact ⟨0, w, h, 0, 0, rfl, by omega, by omega, by omega, by omega, by omega, by omega, by omega, by omega, by omega, by omega, fun j hj => by omega⟩
  | succ k ih =>
    intro hk
    obtain ⟨m, l, t, r, b, hc, h1, h2, h3, h4, h5, h6, h7, h8, h9, h10, hall⟩ := ih (by omega)
    have hs := chTo_succ w h same k m l t r b hc
    cases hsm : same k
    · rw [hsm] at hs
      have v1 : 0 ≤ (k : Int) % w := Int.emod_nonneg _ (by omega)
      have v2 : (k : Int) % w < w := Int.emod_lt_of_pos _ (by omega)
      have v3 : 0 ≤ (k : Int) / w := Int.ediv_nonneg (by omega) (by omega)
      have v4 : (k : Int) / w < h := by
        refine Int.ediv_lt_of_lt_mul (by omega) ?_
        rw [Int.mul_comm, ← hM]; omega
      have u1 := imin_spec l ((k : Int) % w)
      have u2 := imin_spec t ((k : Int) / w)
      have u3 := imax_spec r ((k : Int) % w + 1)
      have u4 := imax_spec b ((k : Int) / w + 1)
      refine ⟨_, _, _, _, _, hs, by omega, by omega, by omega, by omega, by omega, by omega, by omega, by omega, by omega, by omega, fun j hj hsj => ?_⟩
      by_cases hjk : j = k
      · subst hjk; omega
      · have := hall j (by omega) hsj
        omega
    · rw [hsm] at hs
      refine ⟨_, _, _, _, _, hs, by omega, by omega, by omega, by omega, by omega, by omega, by omega, by omega, by omega, by omega, fun j hj hsj => ?_⟩
      by_cases hjk : j = k
      · subst hjk; rw [hsm] at hsj; cases hsj
      · exact hall j (by omega) hsj

theorem changed_spec (x y w h : Int) (xs ys : List Nat) (M : Nat) (hx1 : -1000000 ≤ x) (hx2 : x ≤ 1000000) (hy1 : -1000000 ≤ y) (hy2 : y ≤ 1000000) (hw : 1 ≤ w) (hw2 : w ≤ 256) (hh : 1 ≤ h) (hh2 : h ≤ 256) (hM : (M : Int) = w * h) :
    ∃ rx ry rw rh m, changed x y w h xs ys M = .tuple #[.agg #[.int .i64 rx, .int .i64 ry, .int .i64 rw, .int .i64 rh], .int .i64 m, .int .i64 0] ∧ m = (chTo w h (fun k => sameTo xs ys k 4) M).1 ∧
      (-2000000 ≤ rx ∧ rx ≤ 2000000 ∧ -2000000 ≤ ry ∧ ry ≤ 2000000 ∧ 0 ≤ rw ∧ rw ≤ 256 ∧ 0 ≤ rh ∧ rh ≤ 256) ∧
      ∀ k : Nat, k < M → sameTo xs ys k 4 = false → inB (x + (k : Int) % w) (y + (k : Int) / w) 1 1 rx ry rw rh = true := by
  obtain ⟨m, l, t, r, b, hc, h1, h2, h3, h4, h5, h6, h7, h8, h9, h10, hall⟩ := chTo_inv w h (fun k => sameTo xs ys k 4) M hw hh hM M (Nat.le_refl _)
  unfold changed
  rw [hc]
  by_cases hm : m = 0
  · subst hm
    refine ⟨0, 0, 0, 0, 0, by simp, rfl, by omega, fun k hk hs => ?_⟩
    have := hall k hk hs
    omega
  · by_cases hd : ∃ k : Nat, k < M ∧ sameTo xs ys k 4 = false
    · obtain ⟨k0, hk0, hs0⟩ := hd
      have hh0 := hall k0 hk0 hs0
      refine ⟨x + l, y + t, r - l, b - t, m, by simp [hm], rfl, by omega, fun k hk hs => ?_⟩
      have := hall k hk hs
      simp [inB]
      omega
    · exfalso
      have hz : ∀ k, k ≤ M → (chTo w h (fun k => sameTo xs ys k 4) k).1 = 0 := by
        intro k
        induction k with
        | zero => intro _; rfl
        | succ k ih =>
          intro hk
          have hsk : sameTo xs ys k 4 = true := by
            cases hs : sameTo xs ys k 4
            · exact absurd ⟨k, by omega, hs⟩ hd
            · rfl
          have hi := ih (by omega)
          rw [chTo_succ w h _ k _ _ _ _ _ rfl, if_pos hsk]
          exact hi
      have := hz M (Nat.le_refl _)
      rw [hc] at this
      exact hm this

/-- How many of the first k pixels differ. -/
def chMany (w h : Int) (xs ys : List Nat) (k : Nat) : Int := (chTo w h (fun k => sameTo xs ys k 4) k).1
theorem chMany_zero (w h : Int) (xs ys : List Nat) : chMany w h xs ys 0 = 0 := rfl
theorem chMany_succ (w h : Int) (xs ys : List Nat) (k : Nat) : chMany w h xs ys (k + 1) = if sameTo xs ys k 4 then chMany w h xs ys k else chMany w h xs ys k + 1 := by
  unfold chMany
  rw [chTo_succ w h _ k _ _ _ _ _ rfl]
  split <;> rfl
theorem chMany_bd (w h : Int) (xs ys : List Nat) (k : Nat) : 0 ≤ chMany w h xs ys k ∧ chMany w h xs ys k ≤ k := by
  induction k with
  | zero => exact ⟨by rw [chMany_zero]; omega, by rw [chMany_zero]; omega⟩
  | succ k ih => rw [chMany_succ]; split <;> omega

theorem pixNo_at (x y : Int) (w h i j : Nat) (hi : i < w) (hj : j < h) : pixNo x y w h (x + i) (y + j) = j * w + i := by
  unfold pixNo
  rw [clampTo_in _ _ _ (by omega) (by omega), clampTo_in _ _ _ (by omega) (by omega)]
  have e : (y + (j : Int) - y) * (w : Int) = ((j * w : Nat) : Int) := by rw [Int.natCast_mul]; congr 1; omega
  rw [e]; omega
theorem pix_lt {w h i j M : Nat} (hi : i < w) (hj : j < h) (hM : (M : Int) = (w : Int) * (h : Int)) : j * w + i < M := by
  have h1 : M = w * h := by omega
  have h2 : (j + 1) * w ≤ h * w := Nat.mul_le_mul_right w hj
  rw [Nat.mul_comm h w, Nat.add_mul] at h2
  omega
theorem pix_mod {w i j : Nat} (hi : i < w) : ((j * w + i : Nat) : Int) % (w : Int) = i ∧ ((j * w + i : Nat) : Int) / (w : Int) = j := by
  have h1 : (j * w + i) % w = i := by rw [Nat.add_comm, Nat.add_mul_mod_self_right, Nat.mod_eq_of_lt hi]
  have h2 : (j * w + i) / w = j := by rw [Nat.add_comm, Nat.add_mul_div_right _ _ (by omega), Nat.div_eq_of_lt hi, Nat.zero_add]
  exact ⟨by omega, by omega⟩
/-- The cells of a pixel. -/
def pixC (xs : List Nat) (p : Nat) : Array Value := #[.float .f32 (xs.getD (4 * p) 0), .float .f32 (xs.getD (4 * p + 1) 0), .float .f32 (xs.getD (4 * p + 2) 0), .float .f32 (xs.getD (4 * p + 3) 0)]
theorem pixV_eq (xs : List Nat) (p : Nat) : pixV xs p = .agg (pixC xs p) := rfl
theorem pixC_at (xs : List Nat) (p c : Nat) (hc : c < 4) : (pixC xs p)[c]? = some (.float .f32 (xs.getD (4 * p + c) 0)) := by
  rcases (by omega : c = 0 ∨ c = 1 ∨ c = 2 ∨ c = 3) with rfl | rfl | rfl | rfl <;> rfl
end Go.Proofs.Ytoffnmpnhddaiaa
