/- conform.Trim$1. -/
import Derived.Test.YtjicgbpnplmpbaaDoorSlp
namespace Go.Proofs.YtjicgbpnplmpbaaDoor
open Go.RowKit

/-- The block's cells after k of the events behind were moved. -/
def trimC (cs : Array Value) (off : Nat) (by_ out : Int) (ps : Nat → Int) : Nat → Array Value
  | 0 => cs.setIfInBounds (off + 4) (.int .i64 (out + by_))
  | k + 1 => (trimC cs off by_ out ps k).setIfInBounds (off + (k + 1) * 6 + 5) (.int .i64 (ps (k + 1) + by_))
theorem trimC_ahead (cs : Array Value) (off : Nat) (by_ out : Int) (ps : Nat → Int) : ∀ k j, k < j → (trimC cs off by_ out ps k)[off + j * 6 + 5]? = cs[off + j * 6 + 5]?
  | 0, j, h => by rw [trimC, Array.getElem?_setIfInBounds_ne (by omega)]
  | k + 1, j, h => by rw [trimC, Array.getElem?_setIfInBounds_ne (by omega)]; exact trimC_ahead cs off by_ out ps k j (by omega)

set_option maxRecDepth 100000 in
set_option maxHeartbeats 4000000 in
theorem conform_Trim1 (g off m c pb : Nat) (T : TypeId) (cs : Array Value) (by_ out : Int) (ps : Nat → Int) (W : World) (hm : 0 < m) (hmc : m ≤ c) (hm2 : m ≤ 1000) (hx : Bx W g T cs)
    (hp : W.cell? ⟨pb, 0, none⟩ = some (.int .i64 by_)) (hlt : pb < g) (h4 : cs[off + 4]? = some (.int .i64 out)) (h5 : ∀ i, 1 ≤ i → i < m → cs[off + i * 6 + 5]? = some (.int .i64 (ps i)) ∧ 0 ≤ ps i ∧ ps i ≤ 16777216)
    (b3 : 0 ≤ out) (b4 : out ≤ 16777216) (b5 : -1073741824 ≤ by_) (b6 : by_ ≤ 1073741824) :
    Calls Tryd.prog 63 #[.slice (some ⟨g, off, none⟩) m c, .pointer (some ⟨pb, 0, none⟩)] W fun e w' => e = .returned (.tuple #[]) ∧ Bx w' g T (trimC cs off by_ out ps (m - 1)) ∧ Below g W w' := by
  obtain ⟨q, f, l⟩ := hx.all
  have c4 : W.cell? ⟨g, off + 4, none⟩ = some (.int .i64 out) := by rw [q]; exact h4
  have f4 : W.frozen? ⟨g, off + 4, none⟩ = false := f _
  have H5 := Lib.hid h5
  clear h5 q f l
  go_enter Tryd.func63, Tryd.ntmps63
  go_wp2_with fail
  go_region
  go_upto_region 1 with fail
  refine name_world ?_
  intro w0 hw0
  have x0 : Bx w0 g T (trimC cs off by_ out ps 0) := by rw [hw0]; exact hx.set (off + 4) (.int .i64 (out + by_))
  have B0 : Below g W w0 := by rw [hw0]; exact (Below.set' (Nat.le_refl g) (Below.refl g W)).drew
  clear hw0 c4 f4
  by_cases hc1 : c = 1
  · obtain rfl : m = 1 := by omega
    subst hc1
    go_wp2_with fail
    go_loopw [15] (fun s wr => s = .int .i64 0 ∧ Bx wr g T (trimC cs off by_ out ps 0) ∧ Below g W wr) (fun s _ => (intOf s).toNat)
    case atStart => exact ⟨rfl, x0, B0⟩
    case round =>
      obtain ⟨rfl, x, B⟩ := hrel
      go_wp2_with fail
      go_end0
      exact ⟨rfl, x, B⟩
  have hc2 : c - 1 ≠ 0 := by omega
  go_wp2_with fail
  go_loopw [15] (fun s wr => ∃ k : Nat, k ≤ m - 1 ∧ s = .int .i64 (k : Int) ∧ Bx wr g T (trimC cs off by_ out ps k) ∧ Below g W wr) (fun s _ => m - 1 - (intOf s).toNat)
  case atStart => exact ⟨0, by omega, rfl, x0, B0⟩
  case round =>
    obtain ⟨k, hk, rfl, x, B⟩ := hrel
    by_cases hlk : k < m - 1
    · obtain ⟨z5, z6, z7⟩ := H5.out (k + 1) (by omega) (by omega)
      obtain ⟨q, f, l⟩ := x.all
      have c5 : wr.cell? ⟨g, off + (k + 1) * 6 + 5, none⟩ = some (.int .i64 (ps (k + 1))) := by rw [q, trimC_ahead _ _ _ _ _ _ _ (Nat.lt_succ_self k)]; exact z5
      have f5 : wr.frozen? ⟨g, off + (k + 1) * 6 + 5, none⟩ = false := f _
      have cp : wr.cell? ⟨pb, 0, none⟩ = some (.int .i64 by_) := by rw [B.cell (p := ⟨pb, 0, none⟩) hlt]; exact hp
      have hxs := fun v => x.set (off + (k + 1) * 6 + 5) v
      have Hxs := Lib.hid hxs
      clear q f l z5 hxs
      go_wp2_with fail
      go_region
      go_wp2_with fail
      go_roundw
      case rel => exact ⟨k + 1, by omega, by go_num, Hxs.out _, (Below.set' (Nat.le_refl g) B).drew⟩
      case measure => simp [intOf]; omega
    · have hkm : k = m - 1 := by omega
      subst hkm
      go_wp2_with fail
      go_end0
      exact ⟨rfl, x, B⟩

/-- conform.Slip$1, with the block's cells. -/
theorem conform_Slip1x (g off m c pb : Nat) (T : TypeId) (cs : Array Value) (by_ inn out : Int) (W : World) (hm : 0 < m) (hx : Bx W g T cs)
    (hp : W.cell? ⟨pb, 0, none⟩ = some (.int .i64 by_)) (h3 : cs[off + 3]? = some (.int .i64 inn)) (h4 : cs[off + 4]? = some (.int .i64 out))
    (b1 : 0 ≤ inn) (b2 : inn ≤ 16777216) (b3 : 0 ≤ out) (b4 : out ≤ 16777216) (b5 : -1073741824 ≤ by_) (b6 : by_ ≤ 1073741824) :
    Calls Tryd.prog 60 #[.slice (some ⟨g, off, none⟩) m c, .pointer (some ⟨pb, 0, none⟩)] W fun e w' => e = .returned (.tuple #[]) ∧ Bx w' g T ((cs.setIfInBounds (off + 3) (.int .i64 (inn + by_))).setIfInBounds (off + 4) (.int .i64 (out + by_))) ∧ Below g W w' := by
  obtain ⟨q, f, l⟩ := hx.all
  refine (conform_Slip1 g off m c pb by_ inn out W hm hp (by rw [q]; exact h3) (by rw [q]; exact h4) f b1 b2 b3 b4 b5 b6).mono ?_
  rintro e w' ⟨rfl, n, rfl⟩
  exact ⟨rfl, Bx.drewN (Bx.set (Bx.set hx _ _) _ _) n, below_drewN (Below.set' (Nat.le_refl g) (Below.set' (Nat.le_refl g) (Below.refl g W))) n⟩
end Go.Proofs.YtjicgbpnplmpbaaDoor
