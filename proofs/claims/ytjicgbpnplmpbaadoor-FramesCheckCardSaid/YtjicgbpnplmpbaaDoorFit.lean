/- The laws' own makers of frames, walked. -/
import Derived.Test.YtjicgbpnplmpbaaDoorMem
namespace Go.Proofs.YtjicgbpnplmpbaaDoor
open Go.RowKit

theorem and_small (w m : Int) (h0 : 0 ≤ m) (h1 : m < 2 ^ 62) : 0 ≤ bits .and .i64 w m ∧ bits .and .i64 w m ≤ m := by
  have e : bits .and .i64 w m = IntKind.i64.wrap ((BitVec.ofInt 64 w &&& BitVec.ofInt 64 m).toNat : Nat) := rfl
  have h2 : (BitVec.ofInt 64 w &&& BitVec.ofInt 64 m).toNat ≤ m.toNat := by
    rw [BitVec.toNat_and]
    have : (BitVec.ofInt 64 m).toNat = m.toNat := by
      rw [BitVec.toNat_ofInt]; congr 1; omega
    rw [this]
    exact Nat.and_le_right
  rw [e, IntKind.wrap_i64]
  generalize (BitVec.ofInt 64 w &&& BitVec.ofInt 64 m).toNat = q at *
  omega

/-- The side that fit makes. -/
def fitSide (w : Int) : Int := 1 + bits .and .i64 w 7
def fitPlace (x : Int) : Int := imin (imax x (-1000)) 1000
theorem fitSide_bd (w : Int) : 1 ≤ fitSide w ∧ fitSide w ≤ 8 := by
  have := and_small w 7 (by omega) (by omega)
  unfold fitSide; omega
theorem fitPlace_bd (x : Int) : -1000 ≤ fitPlace x ∧ fitPlace x ≤ 1000 := by
  have h1 := imax_spec x (-1000)
  have h2 := imin_spec (imax x (-1000)) 1000
  unfold fitPlace; omega

theorem mul4 (a b : Int) (ha : 1 ≤ a) (hb : 1 ≤ b) (ha' : a ≤ 256) (hb' : b ≤ 256) : ∃ N : Nat, 4 * a * b = (N : Int) ∧ wrap64 (4 * a * b) = (N : Int) ∧ 4 ≤ N ∧ N ≤ 262144 := by
  have h := mul_bd a b ha ha' hb hb'
  have e : 4 * a * b = 4 * (a * b) := Int.mul_assoc 4 a b
  refine ⟨(4 * a * b).toNat, by omega, ?_, by omega, by omega⟩
  rw [IntWalk.wrap64_in _ ⟨by omega, by omega⟩]; omega

/-- What fit makes of the singles. -/
def fitV (xs : List Nat) (N : Nat) : List Nat := (List.range N).map fun j => xs.getD (j % xs.length) 0

theorem fitV_len (xs : List Nat) (N : Nat) : (fitV xs N).length = N := by simp [fitV]
theorem fit_pos {w h : Int} {N : Nat} (hN : (N : Int) = 4 * fitSide w * fitSide h) : 4 ≤ N ∧ N ≤ 256 := by
  have h1 := fitSide_bd w
  have h2 := fitSide_bd h
  have h3 := Int.mul_le_mul h1.1 h2.1 (by omega) (by omega)
  have h4 := Int.mul_le_mul h1.2 h2.2 (by omega) (by omega)
  rw [Int.mul_assoc] at hN
  omega

end Go.Proofs.YtjicgbpnplmpbaaDoor
