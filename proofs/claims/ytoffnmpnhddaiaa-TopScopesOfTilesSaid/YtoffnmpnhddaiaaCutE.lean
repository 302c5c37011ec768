/- dyeref1.Cut, dyeref1.Paste; what copyInto gives is what they give. -/
import Derived.Test.YtoffnmpnhddaiaaCln
import Derived.Test.YtoffnmpnhddaiaaCopyP
import Derived.Test.YtoffnmpnhddaiaaCutB
namespace Go.Proofs.Ytoffnmpnhddaiaa
open Go.RowKit

theorem ref_PixelAt_lit (x y w h u v : Int) (b o n c p : Nat) (xs : List Nat) (W : World) (hp : pixNo x y w h u v = p) (hx1 : -10000000 ≤ x) (hx2 : x ≤ 10000000) (hy1 : -10000000 ≤ y) (hy2 : y ≤ 10000000) (hw1 : 1 ≤ w) (hw2 : w ≤ 256) (hh1 : 1 ≤ h) (hh2 : h ≤ 256)
    (hn : (n : Int) = 4 * w * h) (hnc : n ≤ c) (hxs : xs.length = n) (hrd : Rd W b o xs) :
    Calls Try.prog 19 #[.agg #[.int .i64 x, .int .i64 y, .int .i64 w, .int .i64 h, .slice (some ⟨b, o, none⟩) n c], .int .i64 u, .int .i64 v] W fun e w' =>
      e = .returned (.agg #[.float .f32 (xs.getD (4 * p) 0), .float .f32 (xs.getD (4 * p + 1) 0), .float .f32 (xs.getD (4 * p + 2) 0), .float .f32 (xs.getD (4 * p + 3) 0)]) ∧ Below W.heap.size W w' := by
  subst hp
  exact ref_PixelAt x y w h u v b o n c xs W hx1 hx2 hy1 hy2 hw1 hw2 hh1 hh2 hn hnc hxs hrd

/-- The pixels of a part. -/
def cutP (xs : List Nat) (rw_ w i1 j1 : Nat) (p c : Nat) : Nat := xs.getD (4 * ((j1 + p / rw_) * w + i1 + p % rw_) + c) 0
/-- One frame over another one. -/
def pasteP (xs ys : List Nat) (w w2 i0 j0 i1 j1 cw ch : Nat) (p c : Nat) : Nat :=
  if j0 ≤ p / w ∧ p / w < j0 + ch ∧ i0 ≤ p % w ∧ p % w < i0 + cw then ys.getD (4 * ((j1 + (p / w - j0)) * w2 + i1 + (p % w - i0)) + c) 0 else xs.getD (4 * p + c) 0

theorem cut_made (zs xs : List Nat) (rw_ rh w i1 j1 : Nat) (hw : 0 < rw_) : copyL zs xs rw_ rh w 0 0 i1 j1 rw_ rh rh 0 = madeL (cutP xs rw_ w i1 j1) (4 * (rw_ * rh)) := by
  unfold copyL madeL cutP
  apply List.map_congr_left
  intro k hk
  have hk' := List.mem_range.1 hk
  have h1 : k / 4 / rw_ < rh := by
    rw [Nat.div_lt_iff_lt_mul hw, Nat.mul_comm]
    omega
  have h2 := Nat.mod_lt (k / 4) hw
  rw [if_pos ⟨⟨Nat.zero_le _, Nat.zero_le _, by omega⟩, .inl (by omega)⟩, Nat.sub_zero, Nat.sub_zero]
theorem paste_made (zs xs ys : List Nat) (w h w2 i0 j0 i1 j1 cw ch : Nat) (hz : ∀ k, k < 4 * (w * h) → zs.getD k 0 = canon (xs.getD k 0)) :
    copyL zs ys w h w2 i0 j0 i1 j1 cw ch ch 0 = madeL (pasteP xs ys w w2 i0 j0 i1 j1 cw ch) (4 * (w * h)) := by
  unfold copyL madeL pasteP
  apply List.map_congr_left
  intro k hk
  have hk' := List.mem_range.1 hk
  by_cases hc : j0 ≤ k / 4 / w ∧ k / 4 / w < j0 + ch ∧ i0 ≤ k / 4 % w ∧ k / 4 % w < i0 + cw
  · rw [if_pos hc, if_pos ⟨⟨hc.1, hc.2.2.1, hc.2.2.2⟩, .inl hc.2.1⟩]
  · rw [if_neg hc, if_neg (by omega), hz k hk']
    have : 4 * (k / 4) + k % 4 = k := by omega
    rw [this]

set_option maxRecDepth 100000 in
theorem ref_there (rx ry rw_ rh x y : Int) (W : World) (h1 : -10000000 ≤ rx) (h2 : rx ≤ 10000000) (h3 : -10000000 ≤ ry) (h4 : ry ≤ 10000000) (h5 : 0 ≤ rw_) (h6 : rw_ ≤ 1000) (h7 : 0 ≤ rh) (h8 : rh ≤ 1000) :
    Calls Try.prog 134 #[.agg #[.int .i64 rx, .int .i64 ry, .int .i64 rw_, .int .i64 rh], .int .i64 x, .int .i64 y] W fun e w' => e = .returned (.bool (inB x y 1 1 rx ry rw_ rh)) ∧ Below W.heap.size W w' := by
  go_enter Try.func134, Try.ntmps134
  go_wp2_with fail
  refine (ref_Inside _ _ _ _ _ _ _ _ _ h1 h2 h3 h4 h5 h6 h7 h8 (by omega) (by omega) (by omega) (by omega)).mono ?_
  rintro e w1 ⟨rfl, hb⟩
  go_wp2_with fail
  go_ret
  exact ⟨rfl, bcall (bnew (Below.refl _ W)) hb⟩
theorem ref_there_at (rx ry rw_ rh x y : Int) (r : Bool) (hv : inB x y 1 1 rx ry rw_ rh = r) (W : World) (h1 : -10000000 ≤ rx) (h2 : rx ≤ 10000000) (h3 : -10000000 ≤ ry) (h4 : ry ≤ 10000000) (h5 : 0 ≤ rw_) (h6 : rw_ ≤ 1000) (h7 : 0 ≤ rh) (h8 : rh ≤ 1000) :
    Calls Try.prog 134 #[.agg #[.int .i64 rx, .int .i64 ry, .int .i64 rw_, .int .i64 rh], .int .i64 x, .int .i64 y] W fun e w' => e = .returned (.bool r) ∧ Below W.heap.size W w' := by
  subst hv
  exact ref_there rx ry rw_ rh x y W h1 h2 h3 h4 h5 h6 h7 h8

set_option maxRecDepth 100000 in
set_option maxHeartbeats 2000000 in
theorem cut_makes (x y rx ry : Int) (w h rw_ rh i1 j1 fb b o n c : Nat) (xs : List Nat) (W : World) (x1 : -4000000 ≤ x) (x2 : x ≤ 4000000) (y1 : -4000000 ≤ y) (y2 : y ≤ 4000000) (hw1 : 0 < w) (hw : w ≤ 256) (hh1 : 0 < h) (hh : h ≤ 256)
    (hn : n = 4 * (w * h)) (hnc : n ≤ c) (hxs : xs.length = n) (hrd : Rd W b o xs) (hf : Bx W fb 26 #[.int .i64 x, .int .i64 y, .int .i64 (w : Int), .int .i64 (h : Int), .slice (some ⟨b, o, none⟩) n c]) (ex : rx = x + i1) (ey : ry = y + j1) (hrw : i1 + rw_ ≤ w) (hrh : j1 + rh ≤ h) :
    Makes W 136 #[.pointer (some ⟨fb, 0, none⟩)] rx ry rw_ rh (cutP xs rw_ w i1 j1) := by
  refine ⟨fun args u => ?_, fun i j u hi hj hu => ?_⟩
  · exact call_enter Try.func136 (by kernel_rfl) (by kernel_rfl) _ _
  · have hpix := pixNo_at x y w h (i1 + i) (j1 + j) (by omega) (by omega)
    rw [show x + ((i1 + i : Nat) : Int) = rx + (i : Int) by omega, show y + ((j1 + j : Nat) : Int) = ry + (j : Int) by omega] at hpix
    have hcp : ∀ k, cutP xs rw_ w i1 j1 (j * rw_ + i) k = xs.getD (4 * ((j1 + j) * w + (i1 + i)) + k) 0 := fun k => by
      unfold cutP
      have hd : (j * rw_ + i) / rw_ = j := by rw [Nat.mul_comm, Nat.mul_add_div (by omega), Nat.div_eq_of_lt hi]; rfl
      have hm : (j * rw_ + i) % rw_ = i := by rw [Nat.mul_comm, Nat.mul_add_mod, Nat.mod_eq_of_lt hi]
      rw [hd, hm, Nat.add_assoc]
    have s1 := hrd.below hu hrd.lt
    have z1 := hf.below hu hf.lt
    have hn4 : (n : Int) = 4 * (w : Int) * (h : Int) := by rw [hn]; push_cast; rw [Int.mul_assoc]
    have HH := Lib.hid (And.intro hn4 (And.intro hxs (And.intro hpix hcp)))
    clear hn hn4 hxs hpix hcp ex ey hrd hf hu
    obtain ⟨q1, f1, l1⟩ := z1.all
    have hres : (Value.agg #[.float .f32 (cutP xs rw_ w i1 j1 (j * rw_ + i) 0), .float .f32 (cutP xs rw_ w i1 j1 (j * rw_ + i) 1), .float .f32 (cutP xs rw_ w i1 j1 (j * rw_ + i) 2), .float .f32 (cutP xs rw_ w i1 j1 (j * rw_ + i) 3)]) = .agg #[.float .f32 (xs.getD (4 * ((j1 + j) * w + (i1 + i))) 0), .float .f32 (xs.getD (4 * ((j1 + j) * w + (i1 + i)) + 1) 0), .float .f32 (xs.getD (4 * ((j1 + j) * w + (i1 + i)) + 2) 0), .float .f32 (xs.getD (4 * ((j1 + j) * w + (i1 + i)) + 3) 0)] := by
      rw [HH.out.2.2.2, HH.out.2.2.2, HH.out.2.2.2, HH.out.2.2.2]
      rfl
    rw [hres]
    clear hres
    go_enter Try.func136, Try.ntmps136
    go_wp2_with fail
    refine (ref_PixelAt_lit x y w h (rx + (i : Int)) (ry + (j : Int)) b o n c ((j1 + j) * w + (i1 + i)) xs _ HH.out.2.2.1 (by omega) (by omega) (by omega) (by omega) (by omega) (by omega) (by omega) (by omega) HH.out.1 hnc HH.out.2.1 (s1.keep (bnew (Below.refl _ _)))).mono ?_
    rintro e w1 ⟨rfl, hb⟩
    have xr := (Bx.new u 35 #[.float .f32 0, .float .f32 0, .float .f32 0, .float .f32 0]).keep hb
    have B1 := bcall (bnew (Below.refl _ u)) hb
    clear q1 f1 l1 hb
    obtain ⟨q2, f2, l2⟩ := xr.all
    go_wp2_with fail
    refine bodyPost_ret (v := .agg #[.float .f32 (xs.getD (4 * ((j1 + j) * w + (i1 + i))) 0), .float .f32 (xs.getD (4 * ((j1 + j) * w + (i1 + i)) + 1) 0), .float .f32 (xs.getD (4 * ((j1 + j) * w + (i1 + i)) + 2) 0), .float .f32 (xs.getD (4 * ((j1 + j) * w + (i1 + i)) + 3) 0)]) (by simp [results, Try.results136, go_sem, q2]) rfl ⟨rfl, ?_⟩
    exact bput (by omega) (bput (by omega) (bput (by omega) (bput (by omega) B1)))

set_option maxRecDepth 100000 in
set_option maxHeartbeats 2000000 in
theorem ref_Cut (x y rx ry : Int) (w h rw_ rh i1 j1 b o n c : Nat) (xs : List Nat) (W : World) (x1 : -3000000 ≤ x) (x2 : x ≤ 3000000) (y1 : -3000000 ≤ y) (y2 : y ≤ 3000000) (hw1 : 0 < w) (hw : w ≤ 256) (hh1 : 0 < h) (hh : h ≤ 256)
    (hn : n = 4 * (w * h)) (hnc : n ≤ c) (hxs : xs.length = n) (hrd : Rd W b o xs) (ex : rx = x + i1) (ey : ry = y + j1) (hrw1 : 0 < rw_) (hrw : i1 + rw_ ≤ w) (hrh1 : 0 < rh) (hrh : j1 + rh ≤ h) :
    Calls Try.prog 68 #[.agg #[.int .i64 x, .int .i64 y, .int .i64 (w : Int), .int .i64 (h : Int), .slice (some ⟨b, o, none⟩) n c], .agg #[.int .i64 rx, .int .i64 ry, .int .i64 (rw_ : Int), .int .i64 (rh : Int)]] W fun e w' =>
      ∃ g k, e = .returned (.agg #[.int .i64 rx, .int .i64 ry, .int .i64 (rw_ : Int), .int .i64 (rh : Int), .slice (some ⟨g, 0, none⟩) (4 * (rw_ * rh)) k]) ∧ 4 * (rw_ * rh) ≤ k ∧ W.heap.size ≤ g ∧ Rd w' g 0 (madeL (cutP xs rw_ w i1 j1) (4 * (rw_ * rh))) ∧ Below W.heap.size W w' := by
  have hM2 : rw_ * rh ≤ 65536 := Nat.le_trans (Nat.mul_le_mul (show rw_ ≤ 256 by omega) (show rh ≤ 256 by omega)) (by omega)
  have HH := Lib.hid (And.intro hn (And.intro hxs (And.intro ex (And.intro ey hM2))))
  clear hn hxs hM2 ex ey
  go_enter Try.func68, Try.ntmps68
  go_wp2_with fail
  refine nm_call ?_
  intro wb hwb
  have x0 : Bx wb (W.heap.size) 26 #[.int .i64 x, .int .i64 y, .int .i64 (w : Int), .int .i64 (h : Int), .slice (some ⟨b, o, none⟩) n c] := by rw [hwb]; exact Bx.alloc (Bx.alloc (Bx.new _ _ _) _) _
  have x1' : Bx wb (W.heap.size + 1) 23 #[.int .i64 rx, .int .i64 ry, .int .i64 (rw_ : Int), .int .i64 (rh : Int)] := by rw [hwb]; exact Bx.alloc (Bx.at _ (by simp)) _
  have xr : Bx wb (W.heap.size + 1 + 1) 26 #[.int .i64 0, .int .i64 0, .int .i64 0, .int .i64 0, .slice none 0 0] := by rw [hwb]; exact Bx.at _ (by simp)
  have B1 : Below W.heap.size W wb := by rw [hwb]; exact bnew (bnew (bnew (Below.refl _ W)))
  clear hwb
  replace hrd := hrd.keep B1
  refine (ref_Made rx ry rw_ rh (rw_ * rh) _ _ _ wb rfl HH.out.2.2.2.2 (by have := HH.out.2.2.1; omega) (by have := HH.out.2.2.1; omega) (by have := HH.out.2.2.2.1; omega) (by have := HH.out.2.2.2.1; omega) hrw1 (by omega) hrh1 (by omega) (cut_makes x y rx ry w h rw_ rh i1 j1 _ b o n c xs wb (by omega) (by omega) (by omega) (by omega) hw1 hw hh1 hh HH.out.1 hnc HH.out.2.1 hrd x0 HH.out.2.2.1 HH.out.2.2.2.1 hrw hrh)).mono ?_
  rintro e w1 ⟨g, k, rfl, hk, hg, hrd1, hb1⟩
  have hs := B1.size
  have hxl := xr.lt
  replace xr := xr.keep hb1
  have B2 := bcall B1 hb1
  have hne : g ≠ W.heap.size + 1 + 1 := by omega
  have hge : W.heap.size ≤ g := by omega
  clear hb1 B1 x0 x1' hrd hg
  obtain ⟨q2, f2, l2⟩ := xr.all
  go_wp2_with fail
  refine bodyPost_ret (v := .agg #[.int .i64 rx, .int .i64 ry, .int .i64 (rw_ : Int), .int .i64 (rh : Int), .slice (some ⟨g, 0, none⟩) (4 * (rw_ * rh)) k]) (by simp [results, Try.results68, go_sem, q2]) rfl ⟨g, k, rfl, hk, hge, ?_, ?_⟩
  · exact Only.rd (b := W.heap.size + 1 + 1) ((((((Only.refl _ _).set _ _).set _ _).set _ _).set _ _).set _ _) hne hrd1
  · exact bput (by omega) (bput (by omega) (bput (by omega) (bput (by omega) (bput (by omega) B2))))

end Go.Proofs.Ytoffnmpnhddaiaa
