/- dyeref1.Paste; pixels that are always the same. -/
import Derived.Test.YtoffnmpnhddaiaaCutE
namespace Go.Proofs.Ytoffnmpnhddaiaa
open Go.RowKit

set_option maxRecDepth 100000 in
set_option maxHeartbeats 2000000 in
theorem paste_makes (x y x2 y2 : Int) (w h w2 h2 i0 j0 i1 j1 cw ch fb gb b o n c b2 o2 n2 c2 : Nat) (xs ys : List Nat) (W : World) (x1 : -4000000 ≤ x) (x2' : x ≤ 4000000) (y1 : -4000000 ≤ y) (y2' : y ≤ 4000000) (u1 : -4000000 ≤ x2) (u2 : x2 ≤ 4000000) (v1 : -4000000 ≤ y2) (v2 : y2 ≤ 4000000)
    (hw1 : 0 < w) (hw : w ≤ 256) (hh1 : 0 < h) (hh : h ≤ 256) (hw21 : 0 < w2) (hw2 : w2 ≤ 256) (hh21 : 0 < h2) (hh2 : h2 ≤ 256) (hm : Meet x y w h x2 y2 w2 h2 i0 j0 i1 j1 cw ch)
    (hn : n = 4 * (w * h)) (hnc : n ≤ c) (hxs : xs.length = n) (hrd : Rd W b o xs) (hf : Bx W fb 26 #[.int .i64 x, .int .i64 y, .int .i64 (w : Int), .int .i64 (h : Int), .slice (some ⟨b, o, none⟩) n c]) (hn2 : n2 = 4 * (w2 * h2)) (hnc2 : n2 ≤ c2) (hys : ys.length = n2) (hrd2 : Rd W b2 o2 ys) (hg : Bx W gb 26 #[.int .i64 x2, .int .i64 y2, .int .i64 (w2 : Int), .int .i64 (h2 : Int), .slice (some ⟨b2, o2, none⟩) n2 c2]) :
    Makes W 133 #[.pointer (some ⟨gb, 0, none⟩), .pointer (some ⟨fb, 0, none⟩)] x y w h (pasteP xs ys w w2 i0 j0 i1 j1 cw ch) := by
  refine ⟨fun args u => ?_, fun i j u hi hj hu => ?_⟩
  · exact call_enter Try.func133 (by kernel_rfl) (by kernel_rfl) _ _
  · obtain ⟨m1, m2, m3, m4, m5, m6, m7, m8, m9, m10, m11, m12⟩ := hm
    have hd : (j * w + i) / w = j := by rw [Nat.mul_comm, Nat.mul_add_div (by omega), Nat.div_eq_of_lt hi]; rfl
    have hmd : (j * w + i) % w = i := by rw [Nat.mul_comm, Nat.mul_add_mod, Nat.mod_eq_of_lt hi]
    have s0 := hrd.below hu hrd.lt
    have s1 := hrd2.below hu hrd2.lt
    have z0 := hg.below hu hg.lt
    have z1 := hf.below hu hf.lt
    have hn4 : (n : Int) = 4 * (w : Int) * (h : Int) := by rw [hn]; push_cast; rw [Int.mul_assoc]
    have hn42 : (n2 : Int) = 4 * (w2 : Int) * (h2 : Int) := by rw [hn2]; push_cast; rw [Int.mul_assoc]
    have HH := Lib.hid (And.intro hn4 (And.intro hn42 (And.intro hxs hys)))
    clear hn hn4 hn2 hn42 hxs hys hrd hrd2 hf hg hu
    obtain ⟨q0, f0, l0⟩ := z0.all
    obtain ⟨q1, f1, l1⟩ := z1.all
    by_cases hin : j0 ≤ j ∧ j < j0 + ch ∧ i0 ≤ i ∧ i < i0 + cw
    · have HPv : Hid (∀ k, pasteP xs ys w w2 i0 j0 i1 j1 cw ch (j * w + i) k = ys.getD (4 * ((j1 + (j - j0)) * w2 + (i1 + (i - i0))) + k) 0) := Lib.hid fun k => by
        unfold pasteP
        rw [hd, hmd, if_pos hin, Nat.add_assoc]
      have hpx := pixNo_at x2 y2 w2 h2 (i1 + (i - i0)) (j1 + (j - j0)) (by omega) (by omega)
      rw [show x2 + ((i1 + (i - i0) : Nat) : Int) = x + (i : Int) by omega, show y2 + ((j1 + (j - j0) : Nat) : Int) = y + (j : Int) by omega] at hpx
      have HPx := Lib.hid hpx
      have HI : Hid (inB (x + (i : Int)) (y + (j : Int)) 1 1 x2 y2 w2 h2 = true) := Lib.hid (by unfold inB; simp only [Bool.and_eq_true, decide_eq_true_eq]; omega)
      clear hd hmd hpx hin m1 m2 m3 m4 m5 m6 m7 m8 m9 m10 m11 m12
      have hres : (Value.agg #[.float .f32 (pasteP xs ys w w2 i0 j0 i1 j1 cw ch (j * w + i) 0), .float .f32 (pasteP xs ys w w2 i0 j0 i1 j1 cw ch (j * w + i) 1), .float .f32 (pasteP xs ys w w2 i0 j0 i1 j1 cw ch (j * w + i) 2), .float .f32 (pasteP xs ys w w2 i0 j0 i1 j1 cw ch (j * w + i) 3)]) = .agg #[.float .f32 (ys.getD (4 * ((j1 + (j - j0)) * w2 + (i1 + (i - i0)))) 0), .float .f32 (ys.getD (4 * ((j1 + (j - j0)) * w2 + (i1 + (i - i0))) + 1) 0), .float .f32 (ys.getD (4 * ((j1 + (j - j0)) * w2 + (i1 + (i - i0))) + 2) 0), .float .f32 (ys.getD (4 * ((j1 + (j - j0)) * w2 + (i1 + (i - i0))) + 3) 0)] := by
        rw [HPv.out, HPv.out, HPv.out, HPv.out]
        rfl
      rw [hres]
      clear hres
      go_enter Try.func133, Try.ntmps133
      go_wp2_with fail
      refine (ref_there_at _ _ _ _ _ _ true HI.out _ (by omega) (by omega) (by omega) (by omega) (by omega) (by omega) (by omega) (by omega)).mono ?_
      rintro e wu ⟨rfl, hb⟩
      have xr := (Bx.new u 35 #[.float .f32 0, .float .f32 0, .float .f32 0, .float .f32 0]).keep hb
      have B1 := bcall (bnew (Below.refl _ u)) hb
      replace z0 := z0.keep B1
      replace z1 := z1.keep B1
      replace s0 := s0.keep B1
      replace s1 := s1.keep B1
      clear q0 f0 l0 q1 f1 l1 hb
      obtain ⟨q0, f0, l0⟩ := z0.all
      obtain ⟨q1, f1, l1⟩ := z1.all
      go_wp2_with fail
      refine (ref_PixelAt_lit x2 y2 w2 h2 (x + (i : Int)) (y + (j : Int)) b2 o2 n2 c2 ((j1 + (j - j0)) * w2 + (i1 + (i - i0))) ys _ HPx.out (by omega) (by omega) (by omega) (by omega) (by omega) (by omega) (by omega) (by omega) HH.out.2.1 hnc2 HH.out.2.2.2 s1).mono ?_
      rintro e wv ⟨rfl, hb⟩
      replace xr := xr.keep hb
      have B2 := bcall B1 hb
      clear q0 f0 l0 q1 f1 l1 hb z0 z1 s0 s1
      obtain ⟨q2, f2, l2⟩ := xr.all
      have lu := B2.size
      go_wp2_with fail
      refine bodyPost_ret (v := .agg #[.float .f32 (ys.getD (4 * ((j1 + (j - j0)) * w2 + (i1 + (i - i0)))) 0), .float .f32 (ys.getD (4 * ((j1 + (j - j0)) * w2 + (i1 + (i - i0))) + 1) 0), .float .f32 (ys.getD (4 * ((j1 + (j - j0)) * w2 + (i1 + (i - i0))) + 2) 0), .float .f32 (ys.getD (4 * ((j1 + (j - j0)) * w2 + (i1 + (i - i0))) + 3) 0)]) (by simp [results, Try.results133, go_sem, q2]) rfl ⟨rfl, ?_⟩
      exact bput (by omega) (bput (by omega) (bput (by omega) (bput (by omega) B2)))
    · have HPv : Hid (∀ k, pasteP xs ys w w2 i0 j0 i1 j1 cw ch (j * w + i) k = xs.getD (4 * (j * w + i) + k) 0) := Lib.hid fun k => by
        unfold pasteP
        rw [hd, hmd, if_neg hin]
      have HPx := Lib.hid (pixNo_at x y w h i j hi hj)
      have HI : Hid (inB (x + (i : Int)) (y + (j : Int)) 1 1 x2 y2 w2 h2 = false) := Lib.hid (by
        rw [← Bool.not_eq_true]
        unfold inB; simp only [Bool.and_eq_true, decide_eq_true_eq]; omega)
      clear hd hmd hin m1 m2 m3 m4 m5 m6 m7 m8 m9 m10 m11 m12
      have hres : (Value.agg #[.float .f32 (pasteP xs ys w w2 i0 j0 i1 j1 cw ch (j * w + i) 0), .float .f32 (pasteP xs ys w w2 i0 j0 i1 j1 cw ch (j * w + i) 1), .float .f32 (pasteP xs ys w w2 i0 j0 i1 j1 cw ch (j * w + i) 2), .float .f32 (pasteP xs ys w w2 i0 j0 i1 j1 cw ch (j * w + i) 3)]) = .agg #[.float .f32 (xs.getD (4 * (j * w + i)) 0), .float .f32 (xs.getD (4 * (j * w + i) + 1) 0), .float .f32 (xs.getD (4 * (j * w + i) + 2) 0), .float .f32 (xs.getD (4 * (j * w + i) + 3) 0)] := by
        rw [HPv.out, HPv.out, HPv.out, HPv.out]
        rfl
      rw [hres]
      clear hres
      go_enter Try.func133, Try.ntmps133
      go_wp2_with fail
      refine (ref_there_at _ _ _ _ _ _ false HI.out _ (by omega) (by omega) (by omega) (by omega) (by omega) (by omega) (by omega) (by omega)).mono ?_
      rintro e wu ⟨rfl, hb⟩
      have xr := (Bx.new u 35 #[.float .f32 0, .float .f32 0, .float .f32 0, .float .f32 0]).keep hb
      have B1 := bcall (bnew (Below.refl _ u)) hb
      replace z0 := z0.keep B1
      replace z1 := z1.keep B1
      replace s0 := s0.keep B1
      replace s1 := s1.keep B1
      clear q0 f0 l0 q1 f1 l1 hb
      obtain ⟨q0, f0, l0⟩ := z0.all
      obtain ⟨q1, f1, l1⟩ := z1.all
      go_wp2_with fail
      refine (ref_PixelAt_lit x y w h (x + (i : Int)) (y + (j : Int)) b o n c (j * w + i) xs _ HPx.out (by omega) (by omega) (by omega) (by omega) (by omega) (by omega) (by omega) (by omega) HH.out.1 hnc HH.out.2.2.1 s0).mono ?_
      rintro e wv ⟨rfl, hb⟩
      replace xr := xr.keep hb
      have B2 := bcall B1 hb
      clear q0 f0 l0 q1 f1 l1 hb z0 z1 s0 s1
      obtain ⟨q2, f2, l2⟩ := xr.all
      have lu := B2.size
      go_wp2_with fail
      refine bodyPost_ret (v := .agg #[.float .f32 (xs.getD (4 * (j * w + i)) 0), .float .f32 (xs.getD (4 * (j * w + i) + 1) 0), .float .f32 (xs.getD (4 * (j * w + i) + 2) 0), .float .f32 (xs.getD (4 * (j * w + i) + 3) 0)]) (by simp [results, Try.results133, go_sem, q2]) rfl ⟨rfl, ?_⟩
      exact bput (by omega) (bput (by omega) (bput (by omega) (bput (by omega) B2)))

set_option maxRecDepth 100000 in
set_option maxHeartbeats 2000000 in
theorem ref_Paste (x y x2 y2 : Int) (w h w2 h2 i0 j0 i1 j1 cw ch b o n c b2 o2 n2 c2 : Nat) (xs ys : List Nat) (W : World) (x1 : -4000000 ≤ x) (x2' : x ≤ 4000000) (y1 : -4000000 ≤ y) (y2' : y ≤ 4000000) (u1 : -4000000 ≤ x2) (u2 : x2 ≤ 4000000) (v1 : -4000000 ≤ y2) (v2 : y2 ≤ 4000000)
    (hw1 : 0 < w) (hw : w ≤ 256) (hh1 : 0 < h) (hh : h ≤ 256) (hw21 : 0 < w2) (hw2 : w2 ≤ 256) (hh21 : 0 < h2) (hh2 : h2 ≤ 256) (hm : Meet x y w h x2 y2 w2 h2 i0 j0 i1 j1 cw ch)
    (hn : n = 4 * (w * h)) (hnc : n ≤ c) (hxs : xs.length = n) (hrd : Rd W b o xs) (hn2 : n2 = 4 * (w2 * h2)) (hnc2 : n2 ≤ c2) (hys : ys.length = n2) (hrd2 : Rd W b2 o2 ys) :
    Calls Try.prog 66 #[.agg #[.int .i64 x, .int .i64 y, .int .i64 (w : Int), .int .i64 (h : Int), .slice (some ⟨b, o, none⟩) n c], .agg #[.int .i64 x2, .int .i64 y2, .int .i64 (w2 : Int), .int .i64 (h2 : Int), .slice (some ⟨b2, o2, none⟩) n2 c2]] W fun e w' =>
      ∃ g k, e = .returned (.agg #[.int .i64 x, .int .i64 y, .int .i64 (w : Int), .int .i64 (h : Int), .slice (some ⟨g, 0, none⟩) (4 * (w * h)) k]) ∧ 4 * (w * h) ≤ k ∧ W.heap.size ≤ g ∧ Rd w' g 0 (madeL (pasteP xs ys w w2 i0 j0 i1 j1 cw ch) (4 * (w * h))) ∧ Below W.heap.size W w' := by
  have hM2 : w * h ≤ 65536 := Nat.le_trans (Nat.mul_le_mul hw hh) (by omega)
  have HH := Lib.hid (And.intro hn (And.intro hxs (And.intro hn2 (And.intro hys (And.intro hm hM2)))))
  clear hn hxs hn2 hys hm hM2
  go_enter Try.func66, Try.ntmps66
  go_wp2_with fail
  refine nm_call ?_
  intro wb hwb
  have x0 : Bx wb (W.heap.size) 26 #[.int .i64 x, .int .i64 y, .int .i64 (w : Int), .int .i64 (h : Int), .slice (some ⟨b, o, none⟩) n c] := by rw [hwb]; exact Bx.alloc (Bx.alloc (Bx.new _ _ _) _) _
  have xg : Bx wb (W.heap.size + 1) 26 #[.int .i64 x2, .int .i64 y2, .int .i64 (w2 : Int), .int .i64 (h2 : Int), .slice (some ⟨b2, o2, none⟩) n2 c2] := by rw [hwb]; exact Bx.alloc (Bx.at _ (by simp)) _
  have xr : Bx wb (W.heap.size + 1 + 1) 26 #[.int .i64 0, .int .i64 0, .int .i64 0, .int .i64 0, .slice none 0 0] := by rw [hwb]; exact Bx.at _ (by simp)
  have B1 : Below W.heap.size W wb := by rw [hwb]; exact bnew (bnew (bnew (Below.refl _ W)))
  clear hwb
  replace hrd := hrd.keep B1
  replace hrd2 := hrd2.keep B1
  refine (ref_Made x y w h (w * h) _ _ _ wb rfl HH.out.2.2.2.2.2 x1 x2' y1 y2' hw1 hw hh1 hh (paste_makes x y x2 y2 w h w2 h2 i0 j0 i1 j1 cw ch _ _ b o n c b2 o2 n2 c2 xs ys wb x1 x2' y1 y2' u1 u2 v1 v2 hw1 hw hh1 hh hw21 hw2 hh21 hh2 HH.out.2.2.2.2.1 HH.out.1 hnc HH.out.2.1 hrd x0 HH.out.2.2.1 hnc2 HH.out.2.2.2.1 hrd2 xg)).mono ?_
  rintro e w1 ⟨g, k, rfl, hk, hg, hrd1, hb1⟩
  have hs := B1.size
  have hxl := xr.lt
  replace xr := xr.keep hb1
  have B2 := bcall B1 hb1
  have hne : g ≠ W.heap.size + 1 + 1 := by omega
  have hge : W.heap.size ≤ g := by omega
  clear hb1 B1 x0 xg hrd hrd2 hg
  obtain ⟨q2, f2, l2⟩ := xr.all
  go_wp2_with fail
  refine bodyPost_ret (v := .agg #[.int .i64 x, .int .i64 y, .int .i64 (w : Int), .int .i64 (h : Int), .slice (some ⟨g, 0, none⟩) (4 * (w * h)) k]) (by simp [results, Try.results66, go_sem, q2]) rfl ⟨g, k, rfl, hk, hge, ?_, ?_⟩
  · exact Only.rd (b := W.heap.size + 1 + 1) ((((((Only.refl _ _).set _ _).set _ _).set _ _).set _ _).set _ _) hne hrd1
  · exact bput (by omega) (bput (by omega) (bput (by omega) (bput (by omega) (bput (by omega) B2))))

set_option maxRecDepth 100000 in
set_option maxHeartbeats 2000000 in
theorem const_makes1 (x y : Int) (w h pp : Nat) (T : TypeId) (F : Nat → Nat) (W : World) (hp : Bx W pp T #[.float .f32 (F 0), .float .f32 (F 1), .float .f32 (F 2), .float .f32 (F 3)]) :
    Makes W 61 #[.pointer (some ⟨pp, 0, none⟩)] x y w h (fun _ c => F c) := by
  refine ⟨fun args u => ?_, fun i j u hi hj hu => ?_⟩
  · exact call_enter Try.func61 (by kernel_rfl) (by kernel_rfl) _ _
  · have z0 := hp.below hu hp.lt
    clear hp hu
    obtain ⟨q0, f0, l0⟩ := z0.all
    go_enter Try.func61, Try.ntmps61
    go_wp2_with fail
    refine bodyPost_ret (v := .agg #[.float .f32 (F 0), .float .f32 (F 1), .float .f32 (F 2), .float .f32 (F 3)]) (by simp [results, Try.results61, go_sem]) rfl ⟨rfl, ?_⟩
    exact bnew (Below.refl _ _)

set_option maxRecDepth 100000 in
set_option maxHeartbeats 2000000 in
theorem const_makes2 (x y : Int) (w h pp : Nat) (T : TypeId) (F : Nat → Nat) (W : World) (hp : Bx W pp T #[.float .f32 (F 0), .float .f32 (F 1), .float .f32 (F 2), .float .f32 (F 3)]) :
    Makes W 64 #[.pointer (some ⟨pp, 0, none⟩)] x y w h (fun _ c => F c) := by
  refine ⟨fun args u => ?_, fun i j u hi hj hu => ?_⟩
  · exact call_enter Try.func64 (by kernel_rfl) (by kernel_rfl) _ _
  · have z0 := hp.below hu hp.lt
    clear hp hu
    obtain ⟨q0, f0, l0⟩ := z0.all
    go_enter Try.func64, Try.ntmps64
    go_wp2_with fail
    refine bodyPost_ret (v := .agg #[.float .f32 (F 0), .float .f32 (F 1), .float .f32 (F 2), .float .f32 (F 3)]) (by simp [results, Try.results64, go_sem]) rfl ⟨rfl, ?_⟩
    exact bnew (Below.refl _ _)

end Go.Proofs.Ytoffnmpnhddaiaa
