/- A block that holds a right, small frame. -/
import Derived.Test.YtccbhghpghijiaaChg
import Derived.Test.YtccbhghpghijiaaMem
namespace Go.Proofs.Ytccbhghpghijiaa
open Go.RowKit

/-- Block blk holds a right frame whose singles lie in block g. -/
def FrBx (wx : World) (B blk : Nat) (x y w h : Int) (M g : Nat) (xs : List Nat) : Prop :=
  Bx wx blk 26 #[.int .i64 x, .int .i64 y, .int .i64 w, .int .i64 h, .slice (some ⟨g, 0, none⟩) (4 * M) (4 * M)] ∧ Rd wx g 0 xs ∧ B ≤ g ∧
    Hid (xs.length = 4 * M ∧ (M : Int) = w * h ∧ (1 ≤ w ∧ w ≤ 8) ∧ (1 ≤ h ∧ h ≤ 8) ∧ (-1000 ≤ x ∧ x ≤ 1000) ∧ (-1000 ≤ y ∧ y ≤ 1000))
theorem FrBx.keep {wx wy : World} {B blk : Nat} {x y w h : Int} {M g : Nat} {xs : List Nat} (f : FrBx wx B blk x y w h M g xs) (hb : Below wx.heap.size wx wy) : FrBx wy B blk x y w h M g xs :=
  ⟨f.1.keep hb, f.2.1.keep hb, f.2.2⟩
theorem FrBx.only {wx wy : World} {B blk : Nat} {x y w h : Int} {M g b : Nat} {xs : List Nat} (f : FrBx wx B blk x y w h M g xs) (ho : Only b wx wy) (h1 : blk ≠ b) (h2 : g ≠ b) : FrBx wy B blk x y w h M g xs :=
  ⟨ho.bx h1 f.1, ho.rd h2 f.2.1, f.2.2⟩
theorem FrBx.bd {wx : World} {B blk : Nat} {x y w h : Int} {M g : Nat} {xs : List Nat} (f : FrBx wx B blk x y w h M g xs) : xs.length = 4 * M ∧ (M : Int) = w * h ∧ 1 ≤ M ∧ M ≤ 64 ∧ (1 ≤ w ∧ w ≤ 8) ∧ (1 ≤ h ∧ h ≤ 8) ∧ (-1000 ≤ x ∧ x ≤ 1000) ∧ (-1000 ≤ y ∧ y ≤ 1000) := by
  obtain ⟨_, _, _, H⟩ := f
  obtain ⟨h1, h2, h3, h4, h5, h6⟩ := H.out
  have m1 : 1 * 1 ≤ w * h := Int.mul_le_mul h3.1 h4.1 (by omega) (by omega)
  have m2 : w * h ≤ 8 * 8 := Int.mul_le_mul h3.2 h4.2 (by omega) (by omega)
  exact ⟨h1, h2, by omega, by omega, h3, h4, h5, h6⟩
theorem FrBx.reg {wx : World} {B blk : Nat} {x y w h : Int} {M g : Nat} {xs : List Nat} (f : FrBx wx B blk x y w h M g xs) : checkRegion x y w h = 0 := by
  obtain ⟨_, _, _, _, h3, h4, h5, h6⟩ := f.bd
  exact fitted_ok h3.1 h3.2 h4.1 h4.2 h5.1 h5.2 h6.1 h6.2
theorem FrBx.chk {wx : World} {B blk : Nat} {x y w h : Int} {M g : Nat} {xs : List Nat} (f : FrBx wx B blk x y w h M g xs) : checkFrame x y w h (4 * M) = 0 := by
  have hr := f.reg
  obtain ⟨_, hM, _⟩ := f.bd
  refine checkFrame_of hr ?_
  rw [Int.mul_assoc, ← hM]
  omega
/-- What fit gives, as a right frame. -/
theorem fit_right {x y w h : Int} {N : Nat} {xs : List Nat} (hN : (N : Int) = 4 * fitSide w * fitSide h) : ∃ M, N = 4 * M ∧ Hid ((fitV xs N).length = 4 * M ∧ (M : Int) = fitSide w * fitSide h ∧ (1 ≤ fitSide w ∧ fitSide w ≤ 8) ∧ (1 ≤ fitSide h ∧ fitSide h ≤ 8) ∧ (-1000 ≤ fitPlace x ∧ fitPlace x ≤ 1000) ∧ (-1000 ≤ fitPlace y ∧ fitPlace y ≤ 1000)) := by
  obtain ⟨M, hM, rfl⟩ := four_of hN
  exact ⟨M, rfl, Lib.hid ⟨fitV_len _ _, hM, fitSide_bd w, fitSide_bd h, fitPlace_bd x, fitPlace_bd y⟩⟩
end Go.Proofs.Ytccbhghpghijiaa
