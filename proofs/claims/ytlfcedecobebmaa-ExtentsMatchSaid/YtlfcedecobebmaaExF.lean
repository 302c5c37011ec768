/- dyeref1.Extent and dyeref1.Rank. -/
import Derived.Test.YtlfcedecobebmaaExE
import Derived.Deep.RegionHeld3
namespace Go.Proofs.Ytlfcedecobebmaa
open Go.RowKit

set_option maxRecDepth 100000 in
set_option maxHeartbeats 8000000 in
theorem ref_Extent (x y w h : Int) (b o n c M ch : Nat) (xs : List Nat) (W : World) (hM1 : 1 ≤ M) (hM2 : M ≤ 65536) (hn : n = 4 * M) (hch : ch ≤ 4) (hxs : xs.length = n) (hrd : Rd W b o xs) (hnc : n ≤ c) (hb : ∀ v ∈ xs, v < 4294967296) :
    Calls Try.prog 12 #[.agg #[.int .i64 x, .int .i64 y, .int .i64 w, .int .i64 h, .slice (some ⟨b, o, none⟩) n c], .int .i64 (ch : Int)] W fun e w' =>
      e = .returned (extOf (valsL xs ch M)) ∧ Below W.heap.size W w' := by
  have hwd := valsL_wd hb ch M
  have hll := valsL_len xs ch M
  have Hval := Lib.hid (fun (u : World) (hu : Below W.heap.size W u) => ref_values x y w h b o n c M ch xs u hM1 hM2 hn hch hxs (hrd.below hu hrd.lt) hnc)
  generalize valsL xs ch M = l at *
  clear hn hxs hrd hnc hb hch
  go_enter Try.func12, Try.ntmps12
  go_upto_region 1 with fail
  refine name_world ?_
  intro w0 hw0
  have x2 : Bx w0 W.heap.size 26 #[.int .i64 x, .int .i64 y, .int .i64 w, .int .i64 h, .slice (some ⟨b, o, none⟩) n c] := by rw [hw0]; exact (Bx.new _ _ _).alloc _
  have x4 : Bx w0 (W.heap.size + 1) 31 #[.float .f32 0, .float .f32 0, .float .f32 0, .int .i64 0] := by rw [hw0]; exact Bx.at _ (by simp)
  have B : Below W.heap.size W w0 := by rw [hw0]; exact bnew (bnew (Below.refl _ W))
  have hs0 : w0.heap.size = W.heap.size + 2 := by rw [hw0]; simp
  clear hw0
  obtain ⟨q1, f1, l1⟩ := x2.all
  go_wp2_with fail
  refine (Hval.out w0 B).mono ?_
  rintro e w1 ⟨g, gc, rfl, hgc, hg, hrd, hb1⟩
  replace x4 := x4.keep hb1
  rw [hs0] at hg
  replace B := bcall B hb1
  clear hb1 q1 f1 l1 x2 Hval hs0
  go_wp2_with fail
  refine (sl_Clone g 0 gc M l _ hll hM1 (by omega) hrd).mono ?_
  rintro e w2 ⟨g2, cp, rfl, hcp, hg2, row2, hb2⟩
  replace x4 := x4.keep hb2
  replace B := bcall B hb2
  have hg2' : W.heap.size + 2 ≤ g2 := by have := hrd.lt; omega
  clear hb2 hg2 hg hrd
  go_wp2_with fail
  refine (sl_DeleteFunc g2 M cp _ isNaN predR l _ (by omega) hcp row2).mono ?_
  rintro e w3 ⟨rfl, row3, oth⟩
  replace x4 : Bx w3 (W.heap.size + 1) 31 #[.float .f32 0, .float .f32 0, .float .f32 0, .int .i64 0] := oth.bx (by omega) x4
  replace B := B.trans (oth.below (by omega) B.size)
  have hkl : (keepB isNaN l).length ≤ M := by rw [← hll]; exact List.length_filter_le _ _
  have hkw : St.VL Wd (keepB isNaN l) := fun v hv => hwd v (List.mem_filter.1 hv).1
  have hex0 : keepB isNaN l = [] → extOf l = .agg #[.float .f32 0, .float .f32 0, .float .f32 0, .int .i64 (M : Int)] := fun h => by
    unfold extOf; rw [h, hll]
  have hex1 : ∀ m r, keepB isNaN l = m :: r → extOf l = .agg #[.float .f32 (minF lessP r m), .float .f32 (maxF lessP r m), .float .f32 (meanV (r.length + 1) (m :: r)), .int .i64 ((M : Int) - ((r.length + 1 : Nat) : Int))] := fun m r h => by
    unfold extOf; rw [h, hll]
  generalize keepB isNaN l = K at *
  clear oth row2 hwd hll
  cases K with
  | nil =>
    have hex2 : extOf l = .agg #[.float .f32 0, .float .f32 0, .float .f32 0, .int .i64 (M : Int)] := hex0 rfl
    have HE := Lib.hid hex2
    clear hex0 hex1 hex2 row3 hkl hkw
    go_upto_region 4 with fail
    refine name_world ?_
    intro w4 hw4
    have x9 : Bx w4 w3.heap.size 31 #[.float .f32 0, .float .f32 0, .float .f32 0, .int .i64 (M : Int)] := by rw [hw4]; exact Bx.new _ _ _
    have hb4 : Below w3.heap.size w3 w4 := by rw [hw4]; exact bnew (Below.refl _ _)
    replace x4 := x4.keep hb4
    replace B := bcall B hb4
    clear hb4 hw4
    obtain ⟨q4, f4, l4⟩ := x4.all
    obtain ⟨q9, f9, l9⟩ := x9.all
    clear x4 x9
    go_wp2_with fail
    refine bodyPost_ret (v := .agg #[.float .f32 0, .float .f32 0, .float .f32 0, .int .i64 (M : Int)]) (by simp [results, Try.results12, go_sem, q4]) rfl ⟨by rw [HE.out], ?_⟩
    exact bput (by omega) (bput (by omega) (bput (by omega) (bput (by omega) B)))
  | cons m r =>
    have hex2 : extOf l = .agg #[.float .f32 (minF lessP r m), .float .f32 (maxF lessP r m), .float .f32 (meanV (r.length + 1) (m :: r)), .int .i64 ((M : Int) - ((r.length + 1 : Nat) : Int))] := hex1 m r rfl
    obtain ⟨hm, hr⟩ := St.VL.cons.1 hkw
    have hk1 : r.length + 1 ≤ M := hkl
    clear hkl
    have hmean := fun (u : World) (hu : RowP u g2 (r.length + 1) (m :: r)) => ref_mean g2 (r.length + 1) cp (m :: r) u rfl (by omega) (by omega) (by omega) hu.rd
    have hord := fun (u : World) (hu : RowP u g2 (r.length + 1) (m :: r)) => ref_inOrder g2 0 (r.length + 1) cp (m :: r) u rfl (by omega) (by omega) hkw hu.rd
    have hend : ∀ Z, Z.length = r.length + 1 → St.Srt lessR Z → St.Stb lessR Wd (m :: r) Z → St.VL Wd Z → Z.getD 0 0 = minF lessP r m ∧ Z.getD r.length 0 = maxF lessP r m := by
      intro Z hZ s1 s2 s3
      have e : ∀ x y, St.eqv lessR x y = St.eqv lessP x y := fun x y => by
        unfold St.eqv
        rw [decide_eq_decide, (less_sign x y).1, (less_sign y x).1]
      have t1 : St.Srt lessP Z := by
        refine List.Pairwise.imp ?_ s1
        intro a b h
        unfold St.le at *
        rw [(less_sign _ _).1] at h; exact h
      have t2 : St.Stb lessP Wd (m :: r) Z := ⟨s2.1, fun z hz => by
        have := s2.2 z hz
        simp only [show St.eqv lessR z = St.eqv lessP z from funext fun y => e z y] at this
        exact this⟩
      refine ⟨srt_first hm hr t1 t2 s3, ?_⟩
      have := srt_last hm hr t1 t2 s3
      rw [hZ] at this
      exact this
    rw [List.length_cons] at row3 ⊢
    generalize meanV (r.length + 1) (m :: r) = me at *
    generalize minF lessP r m = mi at *
    generalize maxF lessP r m = ma at *
    generalize r.length = L at *
    have HM := Lib.hid (And.intro hmean (And.intro hord hend))
    have HE := Lib.hid hex2
    clear hex0 hex1 hex2 hkw hm hr hmean hord hend
    go_upto_region 4 with fail
    refine name_world ?_
    intro w4 hw4
    have x9 : Bx w4 w3.heap.size 31 #[.float .f32 0, .float .f32 0, .float .f32 0, .int .i64 ((M : Int) - ((L : Int) + 1))] := by rw [hw4]; exact Bx.new _ _ _
    have hb4 : Below w3.heap.size w3 w4 := by rw [hw4]; exact bnew (Below.refl _ _)
    replace x4 := x4.keep hb4
    have g9 := row3.lt
    replace row3 := row3.keep hb4
    have l4 := B.size
    replace B := bcall B hb4
    clear hb4 hw4
    have l9 := x9.lt
    generalize w3.heap.size = p9 at *
    go_wp2_with fail
    refine (HM.out.2.1 _ row3).mono ?_
    rintro e w5 ⟨g8, cp8, Z, rfl, hg8, rowZ, sZ, tZ, vZ, hb5⟩
    obtain ⟨hz0, hz1⟩ := HM.out.2.2 Z rowZ.len sZ tZ vZ
    replace x4 := x4.keep hb5
    replace x9 := x9.keep hb5
    replace row3 := row3.keep hb5
    replace B := bcall B hb5
    have c0 := rowZ.cell 0 (by omega)
    have cL := rowZ.cell L (by omega)
    rw [hz0] at c0
    rw [hz1] at cL
    have l8 := rowZ.lt
    have HM1 := Lib.hid HM.out.1
    clear hb5 sZ tZ vZ hz0 hz1 rowZ HM
    go_upto_region 6 with fail
    have hne : ¬ g8 = p9 := by omega
    have hne2 : ¬ p9 = g8 := fun h => hne h.symm
    have hne3 : p9 ≠ g8 := hne2
    have Hmc := Lib.hid (And.intro HM1.out (And.intro row3 (And.intro x9 (And.intro c0 cL))))
    clear row3 x9
    have s1 : IntKind.i64.wrap ((L : Int) + 1 - 1) = (L : Int) := by rw [IntKind.wrap_i64]; omega
    have s1' : IntKind.i64.wrap (L : Int) = (L : Int) := by rw [IntKind.wrap_i64]; omega
    have s2 : (0 : Int) ≤ (L : Int) := by omega
    have s3 : (L : Int) < (L : Int) + 1 := by omega
    go_region_held3 (fun w' => w'.cell? ⟨g8, 0, none⟩ = some (.float .f32 mi) ∧ w'.cell? ⟨g8, L, none⟩ = some (.float .f32 ma)) (go_keep) (first
      | (go_at_call 34; refine (Hmc.out.1 w5.drew Hmc.out.2.1).mono ?_; rintro e w6 ⟨rfl, hb6z⟩; have hb6 : Below w5.heap.size w5 w6 := ((Below.refl w5.heap.size w5).drew).trans hb6z; have y9 := Hmc.out.2.2.1.keep hb6; have y0 : w6.cell? ⟨g8, 0, none⟩ = some (.float .f32 mi) := (by rw [hb6.cell (p := ⟨g8, 0, none⟩) l8]; exact Hmc.out.2.2.2.1); have yL : w6.cell? ⟨g8, L, none⟩ = some (.float .f32 ma) := (by rw [hb6.cell (p := ⟨g8, L, none⟩) l8]; exact Hmc.out.2.2.2.2); obtain ⟨q9, f9, l9⟩ := y9.all))
    all_goals
      go_upto_region 7 with fail
      refine name_world ?_
      intro w7 hw7
      have x9c : Bx w7 p9 31 #[.float .f32 mi, .float .f32 ma, .float .f32 me, .int .i64 ((M : Int) - ((L : Int) + 1))] := by rw [hw7]; simpa using ((y9.set 0 (.float .f32 mi)).set 1 (.float .f32 ma)).set 2 (.float .f32 me)
      replace x4 : Bx w7 (W.heap.size + 1) 31 #[.float .f32 0, .float .f32 0, .float .f32 0, .int .i64 0] := by rw [hw7]; exact (((x4.keep hb6).other _ _ (by show W.heap.size + 1 ≠ p9; omega)).other _ _ (by show W.heap.size + 1 ≠ p9; omega)).other _ _ (by show W.heap.size + 1 ≠ p9; omega)
      replace B : Below W.heap.size W w7 := by rw [hw7]; exact bput (by omega) (bput (by omega) (bput (by omega) (bcall B hb6)))
      clear hw7 y9 q9 f9 hb6 hb6z y0 yL
      obtain ⟨q4, f4, l4⟩ := x4.all
      obtain ⟨q9, f9, l9⟩ := x9c.all
      clear x4 x9c
      go_wp2_with fail
      refine bodyPost_ret (v := .agg #[.float .f32 mi, .float .f32 ma, .float .f32 me, .int .i64 ((M : Int) - ((L : Int) + 1))]) (by simp [results, Try.results12, go_sem, q4]) rfl ⟨by rw [HE.out]; simp, ?_⟩
      exact bput (by omega) (bput (by omega) (bput (by omega) (bput (by omega) B)))

set_option maxRecDepth 100000 in
set_option maxHeartbeats 8000000 in
theorem ref_Rank (x y w h : Int) (b o n c M ch : Nat) (part : Int) (xs : List Nat) (W : World) (hM1 : 1 ≤ M) (hM2 : M ≤ 65536) (hn : n = 4 * M) (hch : ch ≤ 4) (hxs : xs.length = n) (hrd : Rd W b o xs) (hnc : n ≤ c) (hb : ∀ v ∈ xs, v < 4294967296) :
    Calls Try.prog 13 #[.agg #[.int .i64 x, .int .i64 y, .int .i64 w, .int .i64 h, .slice (some ⟨b, o, none⟩) n c], .int .i64 (ch : Int), .int .i64 part] W fun e w' =>
      ((e = .returned (.tuple #[.float .f32 0, .int .i64 3]) ∧ (part < 0 ∨ 100 < part)) ∨ ((0 ≤ part ∧ part ≤ 100) ∧ ∃ Z, e = .returned (.tuple #[.float .f32 (Z.getD ((M - 1) * part.toNat / 100) 0), .int .i64 0]) ∧ St.Srt lessR Z ∧ St.Stb lessR Wd (valsL xs ch M) Z ∧ St.VL Wd Z)) ∧ Below W.heap.size W w' := by
  have hwd := valsL_wd hb ch M
  have hll := valsL_len xs ch M
  have Hval := Lib.hid (fun (u : World) (hu : Below W.heap.size W u) => ref_values x y w h b o n c M ch xs u hM1 hM2 hn hch hxs (hrd.below hu hrd.lt) hnc)
  generalize valsL xs ch M = l at *
  clear hn hxs hrd hnc hb hch
  have HW := Lib.hid (And.intro hwd hll)
  clear hwd hll
  by_cases hp : part < 0 ∨ 100 < part
  · have HP := Lib.hid hp
    by_cases h0 : part < 0
    all_goals
      clear hp
      first | (have h2 : 100 < part := by rcases HP.out with h | h <;> omega) | skip
      go_enter Try.func13, Try.ntmps13
      go_wp2_with fail
      go_ret2
      first | exact ⟨.inl ⟨rfl, HP.out⟩, bnew (Below.refl _ W)⟩ | exact ⟨.inl rfl, bnew (Below.refl _ W)⟩
  · have p0 : 0 ≤ part := by omega
    have p1 : part ≤ 100 := by omega
    have n0 : ¬ part < 0 := by omega
    have n1 : ¬ 100 < part := by omega
    obtain ⟨q, hq1, hq2, hq3⟩ := rank_place hM1 hM2 p0 p1
    have hm1 : 0 ≤ ((M : Int) - 1) * part := Int.mul_nonneg (by omega) p0
    have hm2 : ((M : Int) - 1) * part ≤ 6553600 := by
      have : ((M : Int) - 1) * part ≤ ((M : Int) - 1) * 100 := Int.mul_le_mul_of_nonneg_left p1 (by omega)
      omega
    rw [← hq3]
    clear hp hq3
    obtain ⟨z, hz⟩ : ∃ z, z = ((M : Int) - 1) * part := ⟨_, rfl⟩
    have hz' : ((M : Int) - 1) * part = z := hz.symm
    rw [← hz] at hq2 hm1 hm2
    have HPP := Lib.hid (And.intro p0 p1)
    clear hz
    go_enter Try.func13, Try.ntmps13
    go_wp2_with fail
    refine (Hval.out _ (bnew (Below.refl _ W))).mono ?_
    rintro e w1 ⟨g, gc, rfl, hgc, hg, hrd, hb1⟩
    have B := bcall (bnew (Below.refl _ W)) hb1
    have HS := Lib.hid (ref_inOrder g 0 M gc l w1 HW.out.2 hM1 (by omega) HW.out.1 hrd)
    clear hg hb1 hrd Hval
    go_wp2_with fail
    refine HS.out.mono ?_
    rintro e w2 ⟨g2, cp, Z, rfl, hg2, row2, sZ, tZ, vZ, hb2⟩
    replace B := bcall B hb2
    have hc := row2.cell q hq1
    have HZ := Lib.hid (And.intro sZ (And.intro tZ (And.intro vZ B)))
    have lz := row2.lt
    clear sZ tZ vZ hb2 HS B row2 hg2
    generalize hv : Z.getD q 0 = v at hc
    have hqi : (q : Int) < (M : Int) := by omega
    go_wp2_with fail
    go_ret2
    refine ⟨.inr ⟨HPP.out, Z, ?_, HZ.out.1, HZ.out.2.1, HZ.out.2.2.1⟩, HZ.out.2.2.2⟩
    rw [hv]
    rfl
end Go.Proofs.Ytlfcedecobebmaa
