/- dyeref1.Cut, dyeref1.Paste; what copyInto gives is what they give. -/
import Derived.Test.YtccbhghpghijiaaCln
import Derived.Test.YtccbhghpghijiaaCopyP
import Derived.Test.YtccbhghpghijiaaCutB
namespace Go.Proofs.Ytccbhghpghijiaa
open Go.RowKit

theorem ref_PixelAt_lit (x y w h u v : Int) (b o n c p : Nat) (xs : List Nat) (W : World) (hp : pixNo x y w h u v = p) (hx1 : -10000000 ≤ x) (hx2 : x ≤ 10000000) (hy1 : -10000000 ≤ y) (hy2 : y ≤ 10000000) (hw1 : 1 ≤ w) (hw2 : w ≤ 256) (hh1 : 1 ≤ h) (hh2 : h ≤ 256)
    (hn : (n : Int) = 4 * w * h) (hnc : n ≤ c) (hxs : xs.length = n) (hrd : Rd W b o xs) :
    Calls Try.prog 23 #[.agg #[.int .i64 x, .int .i64 y, .int .i64 w, .int .i64 h, .slice (some ⟨b, o, none⟩) n c], .int .i64 u, .int .i64 v] W fun e w' =>
      e = .returned (.agg #[.float .f32 (xs.getD (4 * p) 0), .float .f32 (xs.getD (4 * p + 1) 0), .float .f32 (xs.getD (4 * p + 2) 0), .float .f32 (xs.getD (4 * p + 3) 0)]) ∧ Below W.heap.size W w' := by
  subst hp
  exact ref_PixelAt x y w h u v b o n c xs W hx1 hx2 hy1 hy2 hw1 hw2 hh1 hh2 hn hnc hxs hrd

/-- The pixels of a part. -/
def cutP (xs : List Nat) (rw_ w i1 j1 : Nat) (p c : Nat) : Nat := xs.getD (4 * ((j1 + p / rw_) * w + i1 + p % rw_) + c) 0
/-- One frame over another one. -/
def pasteP (xs ys : List Nat) (w w2 i0 j0 i1 j1 cw ch : Nat) (p c : Nat) : Nat :=
  if j0 ≤ p / w ∧ p / w < j0 + ch ∧ i0 ≤ p % w ∧ p % w < i0 + cw then ys.getD (4 * ((j1 + (p / w - j0)) * w2 + i1 + (p % w - i0)) + c) 0 else xs.getD (4 * p + c) 0

theorem cut_made (zs xs : List Nat) (rw_ rh w i1 j1 : Nat) (hw : 0 < rw_) : copyL zs xs rw_ rh w 0 0 i1 j1 rw_ rh rh 0 = madeL (cutP xs rw_ w i1 j1) (4 * (rw_ * rh)) := by
  unfold copyL madeL cutP
  apply List.map_congr_left
  intro k hk
  have hk' := List.mem_range.1 hk
  have h1 : k / 4 / rw_ < rh := by
    rw [Nat.div_lt_iff_lt_mul hw, Nat.mul_comm]
    omega
  have h2 := Nat.mod_lt (k / 4) hw
  rw [if_pos ⟨⟨Nat.zero_le _, Nat.zero_le _, by omega⟩, .inl (by omega)⟩, Nat.sub_zero, Nat.sub_zero]
theorem paste_made (zs xs ys : List Nat) (w h w2 i0 j0 i1 j1 cw ch : Nat) (hz : ∀ k, k < 4 * (w * h) → zs.getD k 0 = canon (xs.getD k 0)) :
    copyL zs ys w h w2 i0 j0 i1 j1 cw ch ch 0 = madeL (pasteP xs ys w w2 i0 j0 i1 j1 cw ch) (4 * (w * h)) := by
  unfold copyL madeL pasteP
  apply List.map_congr_left
  intro k hk
  have hk' := List.mem_range.1 hk
  by_cases hc : j0 ≤ k / 4 / w ∧ k / 4 / w < j0 + ch ∧ i0 ≤ k / 4 % w ∧ k / 4 % w < i0 + cw
  · rw [if_pos hc, if_pos ⟨⟨hc.1, hc.2.2.1, hc.2.2.2⟩, .inl hc.2.1⟩]
  · rw [if_neg hc, if_neg (by omega), hz k hk']
    have : 4 * (k / 4) + k % 4 = k := by omega
    rw [this]

end Go.Proofs.Ytccbhghpghijiaa
