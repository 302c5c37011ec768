/- What is printed is read, plainly. -/
import Derived.Test.YtjicgbpnplmpbaaDoorCdF
namespace Go.Proofs.YtjicgbpnplmpbaaDoor
open Go.RowKit

theorem u8_nat {x : Nat} (h : x < 256) : (UInt8.ofNat x).toNat = x := by rw [UInt8.toNat_ofNat', Nat.mod_eq_of_lt h]
theorem code_bytes (r : Int) (h m s f : Nat) : codeB r h m s f = ⟨#[UInt8.ofNat (48 + h / 10), UInt8.ofNat (48 + h % 10), 58, UInt8.ofNat (48 + m / 10), UInt8.ofNat (48 + m % 10), 58, UInt8.ofNat (48 + s / 10), UInt8.ofNat (48 + s % 10), UInt8.ofNat (sepN r), UInt8.ofNat (48 + f / 10), UInt8.ofNat (48 + f % 10)]⟩ := by
  have hsep : sepB r = ⟨#[UInt8.ofNat (sepN r)]⟩ := by unfold sepB sepN; split <;> rfl
  unfold codeB two
  rw [hsep]; rfl
theorem bt_code (r : Int) {h m s f : Nat} (h1 : h < 100) (m1 : m < 100) (s1 : s < 100) (f1 : f < 100) :
    bt (codeB r h m s f) 0 = 48 + h / 10 ∧ bt (codeB r h m s f) 1 = 48 + h % 10 ∧ bt (codeB r h m s f) 2 = 58 ∧ bt (codeB r h m s f) 3 = 48 + m / 10 ∧ bt (codeB r h m s f) 4 = 48 + m % 10 ∧ bt (codeB r h m s f) 5 = 58 ∧ bt (codeB r h m s f) 6 = 48 + s / 10 ∧ bt (codeB r h m s f) 7 = 48 + s % 10 ∧ bt (codeB r h m s f) 8 = sepN r ∧ bt (codeB r h m s f) 9 = 48 + f / 10 ∧ bt (codeB r h m s f) 10 = 48 + f % 10 := by
  rw [code_bytes]
  have hs := sepN_two r
  exact ⟨u8_nat (by omega), u8_nat (by omega), rfl, u8_nat (by omega), u8_nat (by omega), rfl, u8_nat (by omega), u8_nat (by omega), u8_nat (by omega), u8_nat (by omega), u8_nat (by omega)⟩
theorem parse_print {r : Int} {h m s f : Nat} (hE : codeE r h m s f = 0) : parseC r (codeB r h m s f) = ((h : Int), (m : Int), (s : Int), (f : Int), 0) := by
  obtain ⟨hr, _, h1, _, m1, _, s1, _, f1⟩ := code_right hE
  obtain ⟨_, c0, c1⟩ := sec_cntd hr
  obtain ⟨e0, e1, e2, e3, e4, e5, e6, e7, e8, e9, e10⟩ := bt_code r (h := h) (m := m) (s := s) (f := f) (by omega) (by omega) (by omega) (by omega)
  have hsz : (codeB r h m s f).size = 11 := by rw [code_bytes]; rfl
  have n0 : numC (codeB r h m s f) 0 = h := by unfold numC dig; simp only [Nat.mul_zero, Nat.zero_add]; rw [e0, e1]; omega
  have n1 : numC (codeB r h m s f) 1 = m := by unfold numC dig; simp only [Nat.mul_one, Nat.reduceMul, Nat.reduceAdd]; rw [e3, e4]; omega
  have n2 : numC (codeB r h m s f) 2 = s := by unfold numC dig; simp only [Nat.reduceMul, Nat.reduceAdd]; rw [e6, e7]; omega
  have n3 : numC (codeB r h m s f) 3 = f := by unfold numC dig; simp only [Nat.reduceMul, Nat.reduceAdd]; rw [e9, e10]; omega
  have hok : okN (sepN r) (codeB r h m s f) 11 = true := by
    simp only [okN, posOK, formN, e0, e1, e2, e3, e4, e5, e6, e7, e8, e9, e10, Bool.true_and, Bool.and_eq_true]
    simp
    omega
  unfold parseC
  rw [if_neg (by rw [hr]; decide), if_neg (by rw [hok]; simp [hsz]), n0, n1, n2, n3, hE, if_neg (by simp)]
theorem code_zero (r : Int) : codeE r 0 0 0 0 = if rateB r = false then 1 else 0 := by
  unfold codeE
  cases hr : rateB r
  · rfl
  · have := sec_cntd hr
    rw [if_neg (by simp), if_neg (by omega), if_neg (by omega), if_neg (by simp)]
end Go.Proofs.YtjicgbpnplmpbaaDoor
