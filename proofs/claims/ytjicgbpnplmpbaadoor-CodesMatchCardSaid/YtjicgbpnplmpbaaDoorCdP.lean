/- Codes, plainly: which code has so many before it, and back. -/
import Derived.Test.YtjicgbpnplmpbaaDoorCdA
namespace Go.Proofs.YtjicgbpnplmpbaaDoor
open Go.RowKit

def dayN (r : Int) : Int := if r = 29 then 2589408 else 86400 * r
/-- the number that is counted, of a number of codes within a day -/
def cnum (r k : Int) : Int := if r = 29 then 18000 * (k / 17982) + k % 17982 + (if 1800 ≤ k % 17982 then 2 * ((k % 17982 - 1800) / 1798 + 1) else 0) else k
def codeOfH (r n : Int) : Int := cnum r (n % dayN r) / cntd r / 3600
def codeOfM (r n : Int) : Int := cnum r (n % dayN r) / cntd r / 60 % 60
def codeOfS (r n : Int) : Int := cnum r (n % dayN r) / cntd r % 60
def codeOfF (r n : Int) : Int := cnum r (n % dayN r) % cntd r

theorem day_pos {r : Int} (h : rateB r = true) : 2073600 ≤ dayN r ∧ dayN r ≤ 5184000 := by
  rcases rate_in h with rfl | rfl | rfl | rfl | rfl | rfl | rfl <;> exact ⟨by decide, by decide⟩
theorem cnum_range {r k : Int} (h : rateB r = true) (h0 : 0 ≤ k) (h1 : k < dayN r) : 0 ≤ cnum r k ∧ cnum r k < 86400 * cntd r := by
  by_cases e : r = 29
  · subst e
    have hd : dayN 29 = 2589408 := rfl
    have hc : cntd 29 = 30 := rfl
    rw [hd] at h1; rw [hc]
    have hcn : cnum 29 k = 18000 * (k / 17982) + k % 17982 + (if 1800 ≤ k % 17982 then 2 * ((k % 17982 - 1800) / 1798 + 1) else 0) := rfl
    rw [hcn]
    split <;> omega
  · have hd : dayN r = 86400 * r := if_neg e
    have hc : cntd r = r := if_neg e
    have hcn : cnum r k = k := if_neg e
    rw [hd] at h1; rw [hc, hcn]; exact ⟨h0, h1⟩
/-- the code that is made is right, and has as many before it. -/
theorem code_of_right {r n : Int} (h : rateB r = true) : codeE r (codeOfH r n) (codeOfM r n) (codeOfS r n) (codeOfF r n) = 0 ∧ framesN r (codeOfH r n) (codeOfM r n) (codeOfS r n) (codeOfF r n) = n % dayN r := by
  have hd := day_pos h
  have k0 : 0 ≤ n % dayN r := Int.emod_nonneg _ (by omega)
  have k1 : n % dayN r < dayN r := Int.emod_lt_of_pos _ (by omega)
  obtain ⟨c0, c1⟩ := cnum_range h k0 k1
  unfold codeOfH codeOfM codeOfS codeOfF codeE framesN
  rw [if_neg (by rw [h]; decide)]
  by_cases e : r = 29
  · subst e
    have hd : dayN 29 = 2589408 := rfl
    have hc : cntd 29 = 30 := rfl
    rw [hd] at k0 k1 c0 c1 ⊢
    rw [hc] at c1 ⊢
    generalize n % 2589408 = k at k0 k1 c0 c1 ⊢
    have hcn : cnum 29 k = 18000 * (k / 17982) + k % 17982 + (if 1800 ≤ k % 17982 then 2 * ((k % 17982 - 1800) / 1798 + 1) else 0) := rfl
    by_cases g : 1800 ≤ k % 17982
    · rw [if_pos g] at hcn
      generalize hq : (k % 17982 - 1800) / 1798 = q at hcn
      generalize hw : (k % 17982 - 1800) % 1798 = w
      generalize ht : k / 17982 = t at hcn
      have hk : k % 17982 = 1800 + 1798 * q + w := by omega
      have hk2 : k = 17982 * t + (k % 17982) := by omega
      have hw1 : 0 ≤ w ∧ w < 1798 := by omega
      have hq1 : 0 ≤ q ∧ q ≤ 8 := by omega
      have ht1 : 0 ≤ t ∧ t ≤ 143 := by omega
      rw [hk] at hcn hk2
      generalize cnum 29 k = C at *
      have hC : C = 1800 * (10 * t + q + 1) + (2 + w) := by omega
      have hM : C / 30 / 60 = 10 * t + q + 1 := by omega
      refine ⟨?_, ?_⟩
      · rw [if_neg (by omega), if_neg (by omega)]
      · have e1 : C / 30 / 3600 * 60 + C / 30 / 60 % 60 = C / 30 / 60 := by omega
        have e2 : C / 30 / 60 * 60 + C / 30 % 60 = C / 30 := by omega
        have e3 : C / 30 * 30 + C % 30 = C := by omega
        rw [if_pos rfl, e1, e2, e3, hM]; clear e1 e2 e3 hM; omega
    · rw [if_neg g] at hcn
      generalize ht : k / 17982 = t at hcn
      generalize hr : k % 17982 = s at hcn g
      have hk2 : k = 17982 * t + s := by omega
      have ht1 : 0 ≤ t ∧ t ≤ 143 := by omega
      have hs : 0 ≤ s ∧ s < 1800 := by omega
      generalize cnum 29 k = C at *
      have hM : C / 30 / 60 = 10 * t := by omega
      refine ⟨?_, ?_⟩
      · rw [if_neg (by omega), if_neg (by omega)]
      · have e1 : C / 30 / 3600 * 60 + C / 30 / 60 % 60 = C / 30 / 60 := by omega
        have e2 : C / 30 / 60 * 60 + C / 30 % 60 = C / 30 := by omega
        have e3 : C / 30 * 30 + C % 30 = C := by omega
        rw [if_pos rfl, e1, e2, e3, hM]; clear e1 e2 e3 hM; omega
  · have hd2 : dayN r = 86400 * r := if_neg e
    have hc : cntd r = r := if_neg e
    have hcn : ∀ k, cnum r k = k := fun k => if_neg e
    rw [if_neg e, hc]
    simp only [hcn] at c0 c1 ⊢
    rw [hc] at c1
    generalize n % dayN r = k at *
    rcases rate_in h with rfl | rfl | rfl | rfl | rfl | rfl | rfl
    case inr.inr.inr.inr.inr.inr => exact absurd rfl e
    all_goals
      refine ⟨?_, ?_⟩
      · rw [if_neg (by omega), if_neg (by omega)]
      · omega
theorem code_of_again {r n : Int} : codeOfH r (n % dayN r) = codeOfH r n ∧ codeOfM r (n % dayN r) = codeOfM r n ∧ codeOfS r (n % dayN r) = codeOfS r n ∧ codeOfF r (n % dayN r) = codeOfF r n := by
  have : n % dayN r % dayN r = n % dayN r := Int.emod_emod _ _
  unfold codeOfH codeOfM codeOfS codeOfF
  rw [this]; exact ⟨rfl, rfl, rfl, rfl⟩
theorem back_is {r n : Int} (h : rateB r = true) (h0 : 0 ≤ n) (h1 : n < 2000000) : n % dayN r = n := Int.emod_eq_of_lt h0 (by have := day_pos h; omega)
end Go.Proofs.YtjicgbpnplmpbaaDoor
