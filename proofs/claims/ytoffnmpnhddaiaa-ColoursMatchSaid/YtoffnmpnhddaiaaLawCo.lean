/- ColoursMatch, walked. -/
import Derived.Test.YtoffnmpnhddaiaaColE
import Derived.Test.YtoffnmpnhddaiaaMixT
import Derived.Test.YtoffnmpnhddaiaaFrBx
import Derived.Test.YtoffnmpnhddaiaaMatO
namespace Go.Proofs.Ytoffnmpnhddaiaa
open Go.RowKit

theorem row_rd {w : World} {g n : Nat} {xs : List Nat} (h : Row w g n xs) : Rd w g 0 xs := h.rd

set_option maxRecDepth 100000 in
set_option maxHeartbeats 16000000 in
theorem law_Colours (x y w h : Int) (v : Value) (xs : List Nat) (wa wb_ wc : Nat) (lv : Value) (ls : List Nat) (n lev : Nat) (wd : Int) (W : World) (hs : Sl W v xs) (hl : SlB W lv ls n) :
    Calls Try.prog 9 #[.agg #[.int .i64 x, .int .i64 y, .int .i64 w, .int .i64 h, v], .agg #[.float .f32 wa, .float .f32 wb_, .float .f32 wc], lv, .float .f32 lev, .int .i64 wd] W fun e w' =>
      e = .returned (.bool true) ∧ Below W.heap.size W w' := by
  have hv1 : v.cells = #[v] := by rcases hs with ⟨b, o, c, rfl, _⟩ | ⟨_, a, c, rfl⟩ <;> rfl
  have hl0 := hl
  obtain ⟨_, la, lc, rfl, _, _⟩ := hl0
  go_enter Try.func9, Try.ntmps9
  go_upto_region 3 with (go_at_call 15; refine (law_landed _).mono ?_; rintro e w' ⟨rfl, rfl⟩)
  refine name_world ?_
  intro v0 hwa
  have x5 : Bx v0 W.heap.size 26 #[.int .i64 x, .int .i64 y, .int .i64 w, .int .i64 h, v] := by rw [hwa]; exact Bx.alloc (Bx.new _ _ _) _
  have x6 : Bx v0 (W.heap.size + 1) 75 #[.float .f32 wa, .float .f32 wb_, .float .f32 wc] := by rw [hwa]; exact Bx.at _ (by simp)
  have B : Below W.heap.size W v0 := by rw [hwa]; exact bnew (bnew (Below.refl _ W))
  clear hwa
  obtain ⟨qx5, fx5, lx5⟩ := x5.all
  obtain ⟨qx6, fx6, lx6⟩ := x6.all
  go_wp2_with fail
  have l6' := x6.lt
  refine (law_fit _ _ _ _ _ xs _ (hs.keep B)).mono ?_
  rintro e v1 ⟨g, N, hN, rfl, hg, row, hb⟩
  clear qx5 fx5 lx5 qx6 fx6 lx6
  replace x5 := x5.keep hb
  replace x6 := x6.keep hb
  replace B := bcall B hb
  clear hb
  have hx6 : W.heap.size + 1 < g := by omega
  clear l6' hg
  obtain ⟨M, rfl, H1⟩ := fit_right (x := x) (y := y) (xs := xs) hN
  clear hN hs
  generalize fitPlace x = fx at *
  generalize fitPlace y = fy at *
  generalize fitSide w = fw0 at *
  generalize fitSide h = fh0 at *
  generalize fitV xs (4 * M) = zs at *
  obtain ⟨fw, rfl⟩ : ∃ k : Nat, fw0 = k := ⟨fw0.toNat, by have := H1.out; omega⟩
  obtain ⟨fh, rfl⟩ : ∃ k : Nat, fh0 = k := ⟨fh0.toNat, by have := H1.out; omega⟩
  have hM : M = fw * fh := by have := H1.out.2.1; exact_mod_cast this
  have hbd := H1.out.2.2
  have hM2 : M ≤ 64 := by rw [hM]; exact Nat.mul_le_mul (show fw ≤ 8 by omega) (show fh ≤ 8 by omega)
  have hck : checkFrame fx fy fw fh (4 * M) = 0 := checkFrame_of (fitted_ok hbd.1.1 hbd.1.2 hbd.2.1.1 hbd.2.1.2 hbd.2.2.1.1 hbd.2.2.1.2 hbd.2.2.2.1 hbd.2.2.2.2) (by subst hM; push_cast; rw [Int.mul_assoc])
  have hd := Lib.hid (And.intro H1.out.1 (And.intro hM hck))
  obtain ⟨⟨w1, w2⟩, ⟨h1, h2⟩, ⟨x1, x2⟩, y1, y2⟩ := hbd
  clear H1 hM hck
  have rd := row.rd
  clear row
  obtain ⟨qx5, fx5, lx5⟩ := x5.all
  obtain ⟨qx6, fx6, lx6⟩ := x6.all
  go_wp2_with fail
  have hxs : x = x := rfl
  obtain ⟨z, on⟩ := set5 x5 (.int .i64 fx) (.int .i64 fy) (.int .i64 (fw : Int)) (.int .i64 (fh : Int)) (.slice (some ⟨g, 0, none⟩) (4 * M) (4 * M))
  refine nm_call ?_
  intro v2 hwn
  rw [← hwn] at z on
  clear hwn
  clear qx5 fx5 lx5 qx6 fx6 lx6
  replace x6 := on.bx (by omega) x6
  replace rd := on.rd (by omega) rd
  replace B := bonly B on (by omega)
  clear x5
  have x5 := z
  clear z on
  refine (scope_CheckBands _ ls n _ (hl.keep B)).mono ?_
  rintro e v3 ⟨rfl, hb⟩
  replace x5 := x5.keep hb
  replace x6 := x6.keep hb
  replace rd := rd.keep hb
  replace B := bcall B hb
  clear hb
  obtain ⟨qx5, fx5, lx5⟩ := x5.all
  obtain ⟨qx6, fx6, lx6⟩ := x6.all
  go_wp2_with fail
  refine (ref_BandsError _ ls n _ (hl.keep B)).mono ?_
  rintro e v4 ⟨rfl, hb⟩
  clear qx5 fx5 lx5 qx6 fx6 lx6
  replace x5 := x5.keep hb
  replace x6 := x6.keep hb
  replace rd := rd.keep hb
  replace B := bcall B hb
  clear hb
  obtain ⟨qx5, fx5, lx5⟩ := x5.all
  obtain ⟨qx6, fx6, lx6⟩ := x6.all
  go_wp2_with fail
  obtain ⟨e0, hfe⟩ : ∃ e0, falseErr wa wb_ wc ls n = e0 := ⟨_, rfl⟩
  obtain ⟨z0, hze⟩ : ∃ z0, firstL (zebErrs wa wb_ wc lev wd) = z0 := ⟨_, rfl⟩
  by_cases hne : e0 = 0
  · subst hne
    have l6' := x6.lt
    refine (scope_False_ok fx fy fw fh M (4 * M) g 0 _ wa wb_ wc n _ zs ls _ (by omega) (by omega) (by omega) (by omega) (by omega) (by omega) (by omega) (by omega) hd.out.2.1 (by omega) rfl (by omega) hd.out.2.2 hd.out.1 rd (falseErr_ok hfe).1 (falseErr_ok hfe).2 (hl.keep B)).mono ?_
    rintro e v5 ⟨gr, rfl, hgr, row, hb⟩
    clear qx5 fx5 lx5 qx6 fx6 lx6
    replace x5 := x5.keep hb
    replace x6 := x6.keep hb
    replace rd := rd.keep hb
    replace B := bcall B hb
    clear hb
    have rr := row.rd
    clear row
    obtain ⟨qx5, fx5, lx5⟩ := x5.all
    obtain ⟨qx6, fx6, lx6⟩ := x6.all
    go_wp2_with fail
    have hs1 : W.heap.size + 1 < v5.heap.size ∧ g < v5.heap.size := ⟨x6.lt, rd.lt⟩
    refine nm_call ?_
    intro v6 hwn
    have x11 : Bx v6 v5.heap.size 26 #[.int .i64 fx, .int .i64 fy, .int .i64 (fw : Int), .int .i64 (fh : Int), .slice (some ⟨gr, 0, none⟩) (4 * M) (4 * M)] := by rw [hwn]; exact Bx.new _ _ _
    have hb : Below v5.heap.size v5 v6 := by rw [hwn]; exact bnew (Below.refl _ _)
    clear qx5 fx5 lx5 qx6 fx6 lx6
    replace x5 := x5.keep hb
    replace x6 := x6.keep hb
    replace rd := rd.keep hb
    replace rr := rr.keep hb
    replace B := bcall B hb
    clear hwn hb
    generalize hp11 : v5.heap.size = p11 at *
    clear hp11
    have l11' := x11.lt
    refine (ref_False_ok fx fy fw fh M (4 * M) g 0 _ wa wb_ wc n _ zs ls _ (by omega) (by omega) (by omega) (by omega) (by omega) (by omega) (by omega) (by omega) hd.out.2.1 (by omega) rfl (by omega) hd.out.1 rd hfe (falseErr_ok hfe).2 (hl.keep B)).mono ?_
    rintro e v7 ⟨gs, ks, rfl, hks, hgs, rs, hb⟩
    replace x5 := x5.keep hb
    replace x6 := x6.keep hb
    replace x11 := x11.keep hb
    replace rd := rd.keep hb
    replace rr := rr.keep hb
    replace B := bcall B hb
    clear hb
    obtain ⟨qx5, fx5, lx5⟩ := x5.all
    obtain ⟨qx6, fx6, lx6⟩ := x6.all
    obtain ⟨qx11, fx11, lx11⟩ := x11.all
    go_wp2_with fail
    have hs2 : p11 < v7.heap.size := x11.lt
    refine nm_call ?_
    intro v8 hwn
    have x13 : Bx v8 v7.heap.size 26 #[.int .i64 fx, .int .i64 fy, .int .i64 (fw : Int), .int .i64 (fh : Int), .slice (some ⟨gs, 0, none⟩) (4 * M) ks] := by rw [hwn]; exact Bx.new _ _ _
    have hb : Below v7.heap.size v7 v8 := by rw [hwn]; exact bnew (Below.refl _ _)
    clear qx5 fx5 lx5 qx6 fx6 lx6 qx11 fx11 lx11
    replace x5 := x5.keep hb
    replace x6 := x6.keep hb
    replace x11 := x11.keep hb
    replace rd := rd.keep hb
    replace rr := rr.keep hb
    replace rs := rs.keep hb
    replace B := bcall B hb
    clear hwn hb
    generalize hp13 : v7.heap.size = p13 at *
    clear hp13
    have l13' := x13.lt
    refine (law_alike_ok _ _ _ _ _ _ _ _ _ _ (4 * M) _ _ (by omega) (madeL_len _ _) rr rs).mono ?_
    rintro e v9 ⟨rfl, hb⟩
    replace x5 := x5.keep hb
    replace x6 := x6.keep hb
    replace x11 := x11.keep hb
    replace x13 := x13.keep hb
    replace rd := rd.keep hb
    replace rr := rr.keep hb
    replace rs := rs.keep hb
    replace B := bcall B hb
    clear hb
    clear rr rs
    clear hgr hgs hks
    clear l6' l11' l13'
    obtain ⟨qx5, fx5, lx5⟩ := x5.all
    obtain ⟨qx6, fx6, lx6⟩ := x6.all
    obtain ⟨qx11, fx11, lx11⟩ := x11.all
    obtain ⟨qx13, fx13, lx13⟩ := x13.all
    go_wp2_with fail
    by_cases hnz : z0 = 0
    · subst hnz
      have l6' := x13.lt
      refine (scope_Zebra_ok fx fy wd fw fh M (4 * M) g 0 _ wa wb_ wc lev zs _ (by omega) (by omega) (by omega) (by omega) (by omega) (by omega) (by omega) (by omega) hd.out.2.1 (by omega) rfl (by omega) hd.out.2.2 hd.out.1 rd (zebErr_ok hze).1 (zebErr_ok hze).2.1 (zebErr_ok hze).2.2.1 (zebErr_ok hze).2.2.2).mono ?_
      rintro e v10 ⟨gr, rfl, hgr, row, hb⟩
      clear qx5 fx5 lx5 qx6 fx6 lx6 qx11 fx11 lx11 qx13 fx13 lx13
      replace x5 := x5.keep hb
      replace x6 := x6.keep hb
      replace x11 := x11.keep hb
      replace x13 := x13.keep hb
      replace rd := rd.keep hb
      replace B := bcall B hb
      clear hb
      have hgr2 : p13 < gr := by omega
      clear hgr
      have rr := row.rd
      clear row
      obtain ⟨qx5, fx5, lx5⟩ := x5.all
      obtain ⟨qx6, fx6, lx6⟩ := x6.all
      obtain ⟨qx11, fx11, lx11⟩ := x11.all
      obtain ⟨qx13, fx13, lx13⟩ := x13.all
      go_wp2_with fail
      obtain ⟨z, on⟩ := set5 x11 (.int .i64 fx) (.int .i64 fy) (.int .i64 (fw : Int)) (.int .i64 (fh : Int)) (.slice (some ⟨gr, 0, none⟩) (4 * M) (4 * M))
      refine nm_call ?_
      intro v11 hwn
      rw [← hwn] at z on
      clear hwn
      clear qx5 fx5 lx5 qx6 fx6 lx6 qx11 fx11 lx11 qx13 fx13 lx13
      replace x5 := on.bx (by omega) x5
      replace x6 := on.bx (by omega) x6
      replace x13 := on.bx (by omega) x13
      replace rd := on.rd (by omega) rd
      replace rr := on.rd (by omega) rr
      replace B := bonly B on (by omega)
      clear x11
      have x11 := z
      clear z on
      have l13' := x13.lt
      refine (ref_Zebra_ok fx fy wd fw fh (4 * M) g 0 _ wa wb_ wc lev M zs _ (by omega) (by omega) (by omega) (by omega) (by omega) (by omega) (by omega) (by omega) hd.out.2.1 (by omega) rfl (by omega) hd.out.1 rd hze (zebErr_ok hze).2.2.1 (zebErr_ok hze).2.2.2).mono ?_
      rintro e v12 ⟨gs, ks, rfl, hks, hgs, rs, hb⟩
      replace x5 := x5.keep hb
      replace x6 := x6.keep hb
      replace x11 := x11.keep hb
      replace x13 := x13.keep hb
      replace rd := rd.keep hb
      replace rr := rr.keep hb
      replace B := bcall B hb
      clear hb
      have hgs2 : p13 < gs := by omega
      clear hgs
      obtain ⟨qx5, fx5, lx5⟩ := x5.all
      obtain ⟨qx6, fx6, lx6⟩ := x6.all
      obtain ⟨qx11, fx11, lx11⟩ := x11.all
      obtain ⟨qx13, fx13, lx13⟩ := x13.all
      go_wp2_with fail
      obtain ⟨z, on⟩ := set5 x13 (.int .i64 fx) (.int .i64 fy) (.int .i64 (fw : Int)) (.int .i64 (fh : Int)) (.slice (some ⟨gs, 0, none⟩) (4 * M) ks)
      refine nm_call ?_
      intro v13 hwn
      rw [← hwn] at z on
      clear hwn
      clear qx5 fx5 lx5 qx6 fx6 lx6 qx11 fx11 lx11 qx13 fx13 lx13
      replace x5 := on.bx (by omega) x5
      replace x6 := on.bx (by omega) x6
      replace x11 := on.bx (by omega) x11
      replace rd := on.rd (by omega) rd
      replace rr := on.rd (by omega) rr
      replace rs := on.rd (by omega) rs
      replace B := bonly B on (by omega)
      clear x13
      have x13 := z
      clear z on
      refine (law_alike_ok _ _ _ _ _ _ _ _ _ _ (4 * M) _ _ (by omega) (madeL_len _ _) rr rs).mono ?_
      rintro e v14 ⟨rfl, hb⟩
      replace x5 := x5.keep hb
      replace x6 := x6.keep hb
      replace x11 := x11.keep hb
      replace x13 := x13.keep hb
      replace rd := rd.keep hb
      replace rr := rr.keep hb
      replace rs := rs.keep hb
      replace B := bcall B hb
      clear hb
      obtain ⟨qx5, fx5, lx5⟩ := x5.all
      obtain ⟨qx6, fx6, lx6⟩ := x6.all
      obtain ⟨qx11, fx11, lx11⟩ := x11.all
      obtain ⟨qx13, fx13, lx13⟩ := x13.all
      go_wp2_with fail
      go_ret
      exact ⟨rfl, B⟩
    · have l6' := x13.lt
      refine (scope_Zebra_err fx fy wd fw fh (4 * M) g 0 _ wa wb_ wc lev z0 _ (by omega) hd.out.2.2 hnz hze).mono ?_
      rintro e v10 ⟨rfl, hb⟩
      clear qx5 fx5 lx5 qx6 fx6 lx6 qx11 fx11 lx11 qx13 fx13 lx13
      replace x5 := x5.keep hb
      replace x6 := x6.keep hb
      replace x11 := x11.keep hb
      replace x13 := x13.keep hb
      replace rd := rd.keep hb
      replace B := bcall B hb
      clear hb
      obtain ⟨qx5, fx5, lx5⟩ := x5.all
      obtain ⟨qx6, fx6, lx6⟩ := x6.all
      obtain ⟨qx11, fx11, lx11⟩ := x11.all
      obtain ⟨qx13, fx13, lx13⟩ := x13.all
      go_wp2_with fail
      obtain ⟨z, on⟩ := set5 x11 (.int .i64 0) (.int .i64 0) (.int .i64 0) (.int .i64 0) (.slice none 0 0)
      refine nm_call ?_
      intro v11 hwn
      rw [← hwn] at z on
      clear hwn
      clear qx5 fx5 lx5 qx6 fx6 lx6 qx11 fx11 lx11 qx13 fx13 lx13
      replace x5 := on.bx (by omega) x5
      replace x6 := on.bx (by omega) x6
      replace x13 := on.bx (by omega) x13
      replace rd := on.rd (by omega) rd
      replace B := bonly B on (by omega)
      clear x11
      have x11 := z
      clear z on
      have l13' := x13.lt
      refine (ref_Zebra_err fx fy wd fw fh (4 * M) g 0 _ wa wb_ wc lev z0 _ hnz hze).mono ?_
      rintro e v12 ⟨rfl, hb⟩
      replace x5 := x5.keep hb
      replace x6 := x6.keep hb
      replace x11 := x11.keep hb
      replace x13 := x13.keep hb
      replace rd := rd.keep hb
      replace B := bcall B hb
      clear hb
      obtain ⟨qx5, fx5, lx5⟩ := x5.all
      obtain ⟨qx6, fx6, lx6⟩ := x6.all
      obtain ⟨qx11, fx11, lx11⟩ := x11.all
      obtain ⟨qx13, fx13, lx13⟩ := x13.all
      go_wp2_with fail
      obtain ⟨z, on⟩ := set5 x13 (.int .i64 0) (.int .i64 0) (.int .i64 0) (.int .i64 0) (.slice none 0 0)
      refine nm_call ?_
      intro v13 hwn
      rw [← hwn] at z on
      clear hwn
      clear qx5 fx5 lx5 qx6 fx6 lx6 qx11 fx11 lx11 qx13 fx13 lx13
      replace x5 := on.bx (by omega) x5
      replace x6 := on.bx (by omega) x6
      replace x11 := on.bx (by omega) x11
      replace rd := on.rd (by omega) rd
      replace B := bonly B on (by omega)
      clear x13
      have x13 := z
      clear z on
      refine (law_alike_err z0 hnz _).mono ?_
      rintro e v14 ⟨rfl, hb⟩
      replace x5 := x5.keep hb
      replace x6 := x6.keep hb
      replace x11 := x11.keep hb
      replace x13 := x13.keep hb
      replace rd := rd.keep hb
      replace B := bcall B hb
      clear hb
      obtain ⟨qx5, fx5, lx5⟩ := x5.all
      obtain ⟨qx6, fx6, lx6⟩ := x6.all
      obtain ⟨qx11, fx11, lx11⟩ := x11.all
      obtain ⟨qx13, fx13, lx13⟩ := x13.all
      go_wp2_with fail
      go_ret
      exact ⟨rfl, B⟩
  · have l6' := x6.lt
    refine (scope_False_err fx fy fw fh (4 * M) g 0 _ wa wb_ wc n e0 _ ls _ (by omega) hd.out.2.2 hne hfe (hl.keep B)).mono ?_
    rintro e v5 ⟨rfl, hb⟩
    clear qx5 fx5 lx5 qx6 fx6 lx6
    replace x5 := x5.keep hb
    replace x6 := x6.keep hb
    replace rd := rd.keep hb
    replace B := bcall B hb
    clear hb
    obtain ⟨qx5, fx5, lx5⟩ := x5.all
    obtain ⟨qx6, fx6, lx6⟩ := x6.all
    go_wp2_with fail
    have hs1 : W.heap.size + 1 < v5.heap.size ∧ g < v5.heap.size := ⟨x6.lt, rd.lt⟩
    refine nm_call ?_
    intro v6 hwn
    have x11 : Bx v6 v5.heap.size 26 #[.int .i64 0, .int .i64 0, .int .i64 0, .int .i64 0, .slice none 0 0] := by rw [hwn]; exact Bx.new _ _ _
    have hb : Below v5.heap.size v5 v6 := by rw [hwn]; exact bnew (Below.refl _ _)
    clear qx5 fx5 lx5 qx6 fx6 lx6
    replace x5 := x5.keep hb
    replace x6 := x6.keep hb
    replace rd := rd.keep hb
    replace B := bcall B hb
    clear hwn hb
    generalize hp11 : v5.heap.size = p11 at *
    clear hp11
    have l11' := x11.lt
    refine (ref_False_err fx fy fw fh (4 * M) g 0 _ wa wb_ wc n e0 _ ls _ hne hfe (hl.keep B)).mono ?_
    rintro e v7 ⟨rfl, hb⟩
    replace x5 := x5.keep hb
    replace x6 := x6.keep hb
    replace x11 := x11.keep hb
    replace rd := rd.keep hb
    replace B := bcall B hb
    clear hb
    obtain ⟨qx5, fx5, lx5⟩ := x5.all
    obtain ⟨qx6, fx6, lx6⟩ := x6.all
    obtain ⟨qx11, fx11, lx11⟩ := x11.all
    go_wp2_with fail
    have hs2 : p11 < v7.heap.size := x11.lt
    refine nm_call ?_
    intro v8 hwn
    have x13 : Bx v8 v7.heap.size 26 #[.int .i64 0, .int .i64 0, .int .i64 0, .int .i64 0, .slice none 0 0] := by rw [hwn]; exact Bx.new _ _ _
    have hb : Below v7.heap.size v7 v8 := by rw [hwn]; exact bnew (Below.refl _ _)
    clear qx5 fx5 lx5 qx6 fx6 lx6 qx11 fx11 lx11
    replace x5 := x5.keep hb
    replace x6 := x6.keep hb
    replace x11 := x11.keep hb
    replace rd := rd.keep hb
    replace B := bcall B hb
    clear hwn hb
    generalize hp13 : v7.heap.size = p13 at *
    clear hp13
    have l13' := x13.lt
    refine (law_alike_err e0 hne _).mono ?_
    rintro e v9 ⟨rfl, hb⟩
    replace x5 := x5.keep hb
    replace x6 := x6.keep hb
    replace x11 := x11.keep hb
    replace x13 := x13.keep hb
    replace rd := rd.keep hb
    replace B := bcall B hb
    clear hb
    clear l6' l11' l13'
    obtain ⟨qx5, fx5, lx5⟩ := x5.all
    obtain ⟨qx6, fx6, lx6⟩ := x6.all
    obtain ⟨qx11, fx11, lx11⟩ := x11.all
    obtain ⟨qx13, fx13, lx13⟩ := x13.all
    go_wp2_with fail
    by_cases hnz : z0 = 0
    · subst hnz
      have l6' := x13.lt
      refine (scope_Zebra_ok fx fy wd fw fh M (4 * M) g 0 _ wa wb_ wc lev zs _ (by omega) (by omega) (by omega) (by omega) (by omega) (by omega) (by omega) (by omega) hd.out.2.1 (by omega) rfl (by omega) hd.out.2.2 hd.out.1 rd (zebErr_ok hze).1 (zebErr_ok hze).2.1 (zebErr_ok hze).2.2.1 (zebErr_ok hze).2.2.2).mono ?_
      rintro e v10 ⟨gr, rfl, hgr, row, hb⟩
      clear qx5 fx5 lx5 qx6 fx6 lx6 qx11 fx11 lx11 qx13 fx13 lx13
      replace x5 := x5.keep hb
      replace x6 := x6.keep hb
      replace x11 := x11.keep hb
      replace x13 := x13.keep hb
      replace rd := rd.keep hb
      replace B := bcall B hb
      clear hb
      have hgr2 : p13 < gr := by omega
      clear hgr
      have rr := row.rd
      clear row
      obtain ⟨qx5, fx5, lx5⟩ := x5.all
      obtain ⟨qx6, fx6, lx6⟩ := x6.all
      obtain ⟨qx11, fx11, lx11⟩ := x11.all
      obtain ⟨qx13, fx13, lx13⟩ := x13.all
      go_wp2_with fail
      obtain ⟨z, on⟩ := set5 x11 (.int .i64 fx) (.int .i64 fy) (.int .i64 (fw : Int)) (.int .i64 (fh : Int)) (.slice (some ⟨gr, 0, none⟩) (4 * M) (4 * M))
      refine nm_call ?_
      intro v11 hwn
      rw [← hwn] at z on
      clear hwn
      clear qx5 fx5 lx5 qx6 fx6 lx6 qx11 fx11 lx11 qx13 fx13 lx13
      replace x5 := on.bx (by omega) x5
      replace x6 := on.bx (by omega) x6
      replace x13 := on.bx (by omega) x13
      replace rd := on.rd (by omega) rd
      replace rr := on.rd (by omega) rr
      replace B := bonly B on (by omega)
      clear x11
      have x11 := z
      clear z on
      have l13' := x13.lt
      refine (ref_Zebra_ok fx fy wd fw fh (4 * M) g 0 _ wa wb_ wc lev M zs _ (by omega) (by omega) (by omega) (by omega) (by omega) (by omega) (by omega) (by omega) hd.out.2.1 (by omega) rfl (by omega) hd.out.1 rd hze (zebErr_ok hze).2.2.1 (zebErr_ok hze).2.2.2).mono ?_
      rintro e v12 ⟨gs, ks, rfl, hks, hgs, rs, hb⟩
      replace x5 := x5.keep hb
      replace x6 := x6.keep hb
      replace x11 := x11.keep hb
      replace x13 := x13.keep hb
      replace rd := rd.keep hb
      replace rr := rr.keep hb
      replace B := bcall B hb
      clear hb
      have hgs2 : p13 < gs := by omega
      clear hgs
      obtain ⟨qx5, fx5, lx5⟩ := x5.all
      obtain ⟨qx6, fx6, lx6⟩ := x6.all
      obtain ⟨qx11, fx11, lx11⟩ := x11.all
      obtain ⟨qx13, fx13, lx13⟩ := x13.all
      go_wp2_with fail
      obtain ⟨z, on⟩ := set5 x13 (.int .i64 fx) (.int .i64 fy) (.int .i64 (fw : Int)) (.int .i64 (fh : Int)) (.slice (some ⟨gs, 0, none⟩) (4 * M) ks)
      refine nm_call ?_
      intro v13 hwn
      rw [← hwn] at z on
      clear hwn
      clear qx5 fx5 lx5 qx6 fx6 lx6 qx11 fx11 lx11 qx13 fx13 lx13
      replace x5 := on.bx (by omega) x5
      replace x6 := on.bx (by omega) x6
      replace x11 := on.bx (by omega) x11
      replace rd := on.rd (by omega) rd
      replace rr := on.rd (by omega) rr
      replace rs := on.rd (by omega) rs
      replace B := bonly B on (by omega)
      clear x13
      have x13 := z
      clear z on
      refine (law_alike_ok _ _ _ _ _ _ _ _ _ _ (4 * M) _ _ (by omega) (madeL_len _ _) rr rs).mono ?_
      rintro e v14 ⟨rfl, hb⟩
      replace x5 := x5.keep hb
      replace x6 := x6.keep hb
      replace x11 := x11.keep hb
      replace x13 := x13.keep hb
      replace rd := rd.keep hb
      replace rr := rr.keep hb
      replace rs := rs.keep hb
      replace B := bcall B hb
      clear hb
      obtain ⟨qx5, fx5, lx5⟩ := x5.all
      obtain ⟨qx6, fx6, lx6⟩ := x6.all
      obtain ⟨qx11, fx11, lx11⟩ := x11.all
      obtain ⟨qx13, fx13, lx13⟩ := x13.all
      go_wp2_with fail
      go_ret
      exact ⟨rfl, B⟩
    · have l6' := x13.lt
      refine (scope_Zebra_err fx fy wd fw fh (4 * M) g 0 _ wa wb_ wc lev z0 _ (by omega) hd.out.2.2 hnz hze).mono ?_
      rintro e v10 ⟨rfl, hb⟩
      clear qx5 fx5 lx5 qx6 fx6 lx6 qx11 fx11 lx11 qx13 fx13 lx13
      replace x5 := x5.keep hb
      replace x6 := x6.keep hb
      replace x11 := x11.keep hb
      replace x13 := x13.keep hb
      replace rd := rd.keep hb
      replace B := bcall B hb
      clear hb
      obtain ⟨qx5, fx5, lx5⟩ := x5.all
      obtain ⟨qx6, fx6, lx6⟩ := x6.all
      obtain ⟨qx11, fx11, lx11⟩ := x11.all
      obtain ⟨qx13, fx13, lx13⟩ := x13.all
      go_wp2_with fail
      obtain ⟨z, on⟩ := set5 x11 (.int .i64 0) (.int .i64 0) (.int .i64 0) (.int .i64 0) (.slice none 0 0)
      refine nm_call ?_
      intro v11 hwn
      rw [← hwn] at z on
      clear hwn
      clear qx5 fx5 lx5 qx6 fx6 lx6 qx11 fx11 lx11 qx13 fx13 lx13
      replace x5 := on.bx (by omega) x5
      replace x6 := on.bx (by omega) x6
      replace x13 := on.bx (by omega) x13
      replace rd := on.rd (by omega) rd
      replace B := bonly B on (by omega)
      clear x11
      have x11 := z
      clear z on
      have l13' := x13.lt
      refine (ref_Zebra_err fx fy wd fw fh (4 * M) g 0 _ wa wb_ wc lev z0 _ hnz hze).mono ?_
      rintro e v12 ⟨rfl, hb⟩
      replace x5 := x5.keep hb
      replace x6 := x6.keep hb
      replace x11 := x11.keep hb
      replace x13 := x13.keep hb
      replace rd := rd.keep hb
      replace B := bcall B hb
      clear hb
      obtain ⟨qx5, fx5, lx5⟩ := x5.all
      obtain ⟨qx6, fx6, lx6⟩ := x6.all
      obtain ⟨qx11, fx11, lx11⟩ := x11.all
      obtain ⟨qx13, fx13, lx13⟩ := x13.all
      go_wp2_with fail
      obtain ⟨z, on⟩ := set5 x13 (.int .i64 0) (.int .i64 0) (.int .i64 0) (.int .i64 0) (.slice none 0 0)
      refine nm_call ?_
      intro v13 hwn
      rw [← hwn] at z on
      clear hwn
      clear qx5 fx5 lx5 qx6 fx6 lx6 qx11 fx11 lx11 qx13 fx13 lx13
      replace x5 := on.bx (by omega) x5
      replace x6 := on.bx (by omega) x6
      replace x11 := on.bx (by omega) x11
      replace rd := on.rd (by omega) rd
      replace B := bonly B on (by omega)
      clear x13
      have x13 := z
      clear z on
      refine (law_alike_err z0 hnz _).mono ?_
      rintro e v14 ⟨rfl, hb⟩
      replace x5 := x5.keep hb
      replace x6 := x6.keep hb
      replace x11 := x11.keep hb
      replace x13 := x13.keep hb
      replace rd := rd.keep hb
      replace B := bcall B hb
      clear hb
      obtain ⟨qx5, fx5, lx5⟩ := x5.all
      obtain ⟨qx6, fx6, lx6⟩ := x6.all
      obtain ⟨qx11, fx11, lx11⟩ := x11.all
      obtain ⟨qx13, fx13, lx13⟩ := x13.all
      go_wp2_with fail
      go_ret
      exact ⟨rfl, B⟩
end Go.Proofs.Ytoffnmpnhddaiaa
