/- FramesJoin, walked. (printed by gen_lawjn.py) -/
import Derived.Test.YtccbhghpghijiaaJnR
import Derived.Test.YtccbhghpghijiaaCutG
import Derived.Test.YtccbhghpghijiaaGrd
namespace Go.Proofs.Ytccbhghpghijiaa
open Go.RowKit

theorem sl_form {w : World} {v : Value} {xs : List Nat} (h : Sl w v xs) : ∃ a n c, v = .slice a n c := by
  rcases h with ⟨b, o, c, rfl, _⟩ | ⟨_, a, c, rfl⟩
  · exact ⟨_, _, _, rfl⟩
  · exact ⟨_, _, _, rfl⟩
set_option maxRecDepth 100000 in
theorem joinV_len {rx ry rw rh : Int} {L : List Fr} (h : joinErr rx ry rw rh L = 0) : (madeL (outP rx ry rw.toNat L L.length) (4 * (rw.toNat * rh.toNat))).length ≤ 1000000 := by
  have h0 : checkRegion rx ry rw rh = 0 := by
    by_cases h1 : checkRegion rx ry rw rh = 0
    · exact h1
    · rw [joinErr_region h1] at h; exact absurd h h1
  obtain ⟨b1, b2, b3, b4, b5, -⟩ := checkRegion_ok h0
  obtain ⟨a, rfl⟩ : ∃ n : Nat, rw = n := ⟨rw.toNat, by omega⟩
  obtain ⟨b, rfl⟩ : ∃ n : Nat, rh = n := ⟨rh.toNat, by omega⟩
  have h2 : a * b ≤ 16384 := by exact_mod_cast b5
  rw [madeL_len, Int.toNat_natCast, Int.toNat_natCast]
  omega
set_option maxRecDepth 100000 in
set_option maxHeartbeats 16000000 in
theorem law_Join (x0 y0 w0 h0 : Int) (v0 : Value) (xs0 : List Nat) (side turn : Int) (v3 : Value) (L : List Fr) (rx ry rw rh : Int) (W : World) (hs0 : Sl W v0 xs0) (hsL : SlF W v3 L) :
    Calls Try.prog 3 #[.agg #[.int .i64 x0, .int .i64 y0, .int .i64 w0, .int .i64 h0, v0], .int .i64 side, .int .i64 turn, v3, .agg #[.int .i64 rx, .int .i64 ry, .int .i64 rw, .int .i64 rh]] W fun e w' => e = .returned (.bool true) ∧ Below W.heap.size W w' := by
  obtain ⟨va, vn, vc, rfl⟩ := sl_form hs0
  have HS0 := Lib.hid hs0
  have HSL := Lib.hid hsL
  obtain ⟨la, lc, rfl, -⟩ := hsL
  have hVl := Lib.hid (joinV_len (rx := rx) (ry := ry) (rw := rw) (rh := rh) (L := L))
  have HJF : Hid (∀ w', SlF w' (.slice la L.length lc) L → Calls Try.prog 6 #[.agg #[.int .i64 rx, .int .i64 ry, .int .i64 rw, .int .i64 rh], .slice la L.length lc] w' fun e w'' => ∃ (a b c d : Int) (sa : Option Addr) (sn sc : Nat), e = .returned (.tuple #[.agg #[.int .i64 a, .int .i64 b, .int .i64 c, .int .i64 d, .slice sa sn sc], .int .i64 (joinErr rx ry rw rh L)]) ∧ JP w'' (madeL (outP rx ry rw.toNat L L.length) (4 * (rw.toNat * rh.toNat))) (joinErr rx ry rw rh L) a b c d sa sn sc rx ry rw rh ∧ Below w'.heap.size w' w'') := Lib.hid fun w' h => (frame_JoinR rx ry rw rh _ L w' h).mono fun e w'' hj => hj.form
  have HJR : Hid (∀ w', SlF w' (.slice la L.length lc) L → Calls Try.prog 7 #[.agg #[.int .i64 rx, .int .i64 ry, .int .i64 rw, .int .i64 rh], .slice la L.length lc] w' fun e w'' => ∃ (a b c d : Int) (sa : Option Addr) (sn sc : Nat), e = .returned (.tuple #[.agg #[.int .i64 a, .int .i64 b, .int .i64 c, .int .i64 d, .slice sa sn sc], .int .i64 (joinErr rx ry rw rh L)]) ∧ JP w'' (madeL (outP rx ry rw.toNat L L.length) (4 * (rw.toNat * rh.toNat))) (joinErr rx ry rw rh L) a b c d sa sn sc rx ry rw rh ∧ Below w'.heap.size w' w'') := Lib.hid fun w' h => (ref_JoinR rx ry rw rh _ L w' h).mono fun e w'' hj => hj.form
  generalize madeL (outP rx ry rw.toNat L L.length) (4 * (rw.toNat * rh.toNat)) = VV at *
  generalize joinErr rx ry rw rh L = er at *
  generalize L.length = ln at *
  clear hs0
  obtain ⟨s1, s2⟩ := fitSide_bd w0
  obtain ⟨s3, s4⟩ := fitSide_bd h0
  obtain ⟨s5, s6⟩ := fitPlace_bd x0
  obtain ⟨s7, s8⟩ := fitPlace_bd y0
  have HF : Hid (∀ w', Sl w' (.slice va vn vc) xs0 → Calls Try.prog 5 #[.agg #[.int .i64 x0, .int .i64 y0, .int .i64 w0, .int .i64 h0, .slice va vn vc]] w' fun e w'' => ∃ (g N : Nat), (N : Int) = 4 * fitSide w0 * fitSide h0 ∧ e = .returned (.agg #[.int .i64 (fitPlace x0), .int .i64 (fitPlace y0), .int .i64 (fitSide w0), .int .i64 (fitSide h0), .slice (some ⟨g, 0, none⟩) N N]) ∧ w'.heap.size ≤ g ∧ Row w'' g N (fitV xs0 N) ∧ Below w'.heap.size w' w'') := Lib.hid fun w' h => law_fit x0 y0 w0 h0 _ xs0 w' h
  generalize fitPlace x0 = X at *
  generalize fitPlace y0 = Y at *
  obtain ⟨fw, hfw⟩ : ∃ z : Nat, fitSide w0 = (z : Int) := ⟨(fitSide w0).toNat, by omega⟩
  obtain ⟨fh, hfh⟩ : ∃ z : Nat, fitSide h0 = (z : Int) := ⟨(fitSide h0).toNat, by omega⟩
  rw [hfw] at HF s1 s2
  rw [hfh] at HF s3 s4
  clear hfw hfh
  have Hr : Hid (checkRegion X Y fw fh = 0) := Lib.hid (fitted_ok s1 s2 s3 s4 s5 s6 s7 s8)
  go_enter Try.func3, Try.ntmps3
  go_upto_region 1 with fail
  refine name_world ?_
  intro w1 hw1
  have x5 : Bx w1 W.heap.size 26 #[.int .i64 x0, .int .i64 y0, .int .i64 w0, .int .i64 h0, .slice va vn vc] := by rw [hw1]; exact (Bx.new _ _ _).alloc _
  have x9 : Bx w1 (W.heap.size + 1) 23 #[.int .i64 rx, .int .i64 ry, .int .i64 rw, .int .i64 rh] := by rw [hw1]; exact Bx.at _ (by simp)
  have B : Below W.heap.size W w1 := by rw [hw1]; exact bnew (bnew (Below.refl _ W))
  clear hw1
  go_wp2_with fail
  refine (law_landed _).mono ?_
  rintro e w2 ⟨rfl, rfl⟩
  obtain ⟨q5, f5, l5⟩ := x5.all
  go_wp2_with fail
  refine (HF.out _ (HS0.out.keep B)).mono ?_
  rintro e w2 ⟨g0, N, hN, rfl, hg0, hrow, hb⟩
  have hsz1 := x9.lt
  have hNN : N = 4 * (fw * fh) := by rw [Int.mul_assoc] at hN; exact_mod_cast hN
  have HN := Lib.hid hNN
  have Hrow := Lib.hid hrow
  have hN256 : N ≤ 256 := by have := Nat.mul_le_mul (show fw ≤ 8 by omega) (show fh ≤ 8 by omega); omega
  clear q5 f5 l5
  replace x5 := x5.keep hb
  replace x9 := x9.keep hb
  replace B := bcall B hb
  clear hb
  clear hN hNN hrow HF HS0
  obtain ⟨xs, hxs⟩ : ∃ xs, xs = fitV xs0 N := ⟨_, rfl⟩
  rw [← hxs] at Hrow
  clear hxs
  obtain ⟨q5, f5, l5⟩ := x5.all
  go_upto_region 4 with fail
  refine name_world ?_
  intro w3 hw3
  have xg : Rd w3 g0 0 xs := by rw [hw3]; exact Only.rd (b := W.heap.size) ((((((Only.refl _ _).set _ _).set _ _).set _ _).set _ _).set _ _) (by omega) Hrow.out.rd
  have Hxl : Hid (xs.length = N) := Lib.hid Hrow.out.len
  have y5 : Bx w3 W.heap.size 26 #[.int .i64 X, .int .i64 Y, .int .i64 (fw : Int), .int .i64 (fh : Int), .slice (some ⟨g0, 0, none⟩) N N] := by rw [hw3]; exact (Bx.set (Bx.set (Bx.set (Bx.set (Bx.set x5 0 _) 1 _) 2 _) 3 _) 4 _)
  replace x9 : Bx w3 (W.heap.size + 1) 23 #[.int .i64 rx, .int .i64 ry, .int .i64 rw, .int .i64 rh] := by rw [hw3]; exact (Bx.other (Bx.other (Bx.other (Bx.other (Bx.other x9 _ _ (by first | omega | (simp; done) | (simp; omega))) _ _ (by first | omega | (simp; done) | (simp; omega))) _ _ (by first | omega | (simp; done) | (simp; omega))) _ _ (by first | omega | (simp; done) | (simp; omega))) _ _ (by first | omega | (simp; done) | (simp; omega)))
  replace B : Below W.heap.size W w3 := by rw [hw3]; exact bput (by omega) (bput (by omega) (bput (by omega) (bput (by omega) (bput (by omega) (B)))))
  clear q5 f5 l5
  clear hw3 x5 Hrow
  have x5 := y5
  clear y5
  obtain ⟨q9, f9, l9⟩ := x9.all
  go_wp2_with fail
  refine (HJF.out _ (HSL.out.keep B)).mono ?_
  rintro e w4 ⟨a1, b1, c1, d1, sa1, sn1, sc1, rfl, hj1, hb⟩
  have HJ1 := Lib.hid hj1
  clear hj1
  clear q9 f9 l9
  replace x5 := x5.keep hb
  replace x9 := x9.keep hb
  replace xg := xg.keep hb
  replace B := bcall B hb
  clear hb
  go_upto_region 5 with fail
  refine name_world ?_
  intro w5 hw5
  have hb : Below w4.heap.size w4 w5 := by rw [hw5]; exact (Below.refl _ _).alloc (Nat.le_refl _) _
  have x11 : Bx w5 w4.heap.size 26 #[.int .i64 a1, .int .i64 b1, .int .i64 c1, .int .i64 d1, .slice sa1 sn1 sc1] := by rw [hw5]; exact Bx.new _ _ _
  obtain ⟨p11, hp11⟩ : ∃ p, p = w4.heap.size := ⟨_, rfl⟩
  rw [← hp11] at x11 ⊢
  have hq11 : W.heap.size + 1 < p11 := by have := x9.lt; omega
  have hg11 : g0 < p11 := by have := xg.1; omega
  have HJ2 := Lib.hid (HJ1.out.keep hb)
  replace x5 := x5.keep hb
  replace x9 := x9.keep hb
  replace xg := xg.keep hb
  replace B := bcall B hb
  clear hb
  clear hw5 hp11 HJ1 HJF
  obtain ⟨q9, f9, l9⟩ := x9.all
  go_wp2_with fail
  refine (HJR.out _ (HSL.out.keep B)).mono ?_
  rintro e w6 ⟨a2, b2, c2, d2, sa2, sn2, sc2, rfl, hj2, hb⟩
  have HJ3 := Lib.hid hj2
  have HJ4 := Lib.hid (HJ2.out.keep hb)
  clear hj2 HJ2 HJR HSL
  clear q9 f9 l9
  replace x5 := x5.keep hb
  replace x11 := x11.keep hb
  replace xg := xg.keep hb
  replace B := bcall B hb
  clear hb
  clear x9
  go_upto_region 6 with fail
  refine name_world ?_
  intro w7 hw7
  have hb : Below w6.heap.size w6 w7 := by rw [hw7]; exact (Below.refl _ _).alloc (Nat.le_refl _) _
  have x13 : Bx w7 w6.heap.size 26 #[.int .i64 a2, .int .i64 b2, .int .i64 c2, .int .i64 d2, .slice sa2 sn2 sc2] := by rw [hw7]; exact Bx.new _ _ _
  have HJ5 := Lib.hid (HJ3.out.keep hb)
  have HJ6 := Lib.hid (HJ4.out.keep hb)
  replace x5 := x5.keep hb
  replace x11 := x11.keep hb
  replace xg := xg.keep hb
  replace B := bcall B hb
  clear hb
  clear hw7 HJ3 HJ4
  obtain ⟨q11, f11, l11⟩ := x11.all
  obtain ⟨q13, f13, l13⟩ := x13.all
  go_wp2_with fail
  refine (law_alikeJ hVl.out HJ6.out HJ5.out).mono ?_
  rintro e w8 ⟨rfl, hb⟩
  clear q11 f11 l11 q13 f13 l13
  replace x5 := x5.keep hb
  replace x11 := x11.keep hb
  replace xg := xg.keep hb
  replace B := bcall B hb
  clear hb
  clear x13 HJ5 HJ6 hVl
  obtain ⟨q5, f5, l5⟩ := x5.all
  go_wp2_with fail
  refine (frame_TilesT X Y fw fh side _).mono ?_
  rintro e w9 ⟨vt, rfl, hown, hb⟩
  have HO := Lib.hid hown
  clear q5 f5 l5
  replace x5 := x5.keep hb
  replace x11 := x11.keep hb
  replace xg := xg.keep hb
  replace B := bcall B hb
  clear hb
  clear hown
  by_cases ht : tErr X Y fw fh side = 0
  rotate_left
  · have ht2 : (tErr X Y fw fh side != 0) = true := by simpa using ht
    generalize tErr X Y fw fh side = te at *
    go_wp2_with fail
    go_ret
    exact ⟨rfl, B⟩
  rw [ht]
  obtain ⟨-, t1, t2⟩ := tErr_zero ht
  have hTm : tMany X Y fw fh side = cnt Y fh side * cnt X fw side := by unfold tMany; rw [if_pos ht]
  have hT1 : 0 < cnt Y fh side * cnt X fw side := Nat.mul_pos (cnt_pos _ _ _ (by omega) (by omega)) (cnt_pos _ _ _ (by omega) (by omega))
  have hT2 := tMany_le X Y fw fh side
  rw [hTm] at HO hT2
  have hRg := rgS_of HO.out
  obtain ⟨T, hT⟩ : ∃ T, T = cnt Y fh side * cnt X fw side := ⟨_, rfl⟩
  rw [← hT] at hT1 hT2 hRg
  have HT := Lib.hid hT
  clear hT hTm ht HO
  rcases hRg with ⟨h1, _⟩ | ⟨gt, ct, rfl, -, hgt, hcells⟩
  · omega
  have HC := Lib.hid hcells
  clear hcells
  have X5 := Lib.hid x5
  have X11 := Lib.hid x11
  have XG := Lib.hid xg
  have hx5 := x5.lt
  have hx11 := x11.lt
  have hxg := xg.1
  clear x5 x11 xg
  go_wp2_with fail
  go_loopw [16, 55] (fun s16 i wr => ∃ (k : Nat) (P : List Fr) (v : Value), k ≤ T ∧ i = .int .i64 (k : Int) ∧ s16 = v ∧ Hid (P.length = k) ∧ Hid (PSt X Y fw fh side xs w9.heap.size wr v P) ∧ Below w9.heap.size w9 wr) (fun _ i _ => T - (intOf i).toNat)
  case atStart => exact ⟨0, [], _, by omega, rfl, rfl, Lib.hid rfl, Lib.hid ⟨OutF.nil _ _, fun m h => by simp at h, fun m h => by simp at h⟩, Below.refl _ _⟩
  case round =>
    obtain ⟨k, P, vp, hk, rfl, hvp, HPl, HPS, hB⟩ := hrel
    have hvp := hvp.symm
    subst hvp
    by_cases hlt : k < T
    · have hki : (k : Int) < (T : Int) := by omega
      obtain ⟨m0, m1, m2, m3⟩ := HC.out k hlt
      obtain ⟨e1, e2, e3, e4, e5⟩ := tile_at X Y fw fh side (by omega) s1 s3 k (by rw [← HT.out]; exact hlt)
      rw [e1] at m0 m1 m2 m3
      have HP : Hid (∀ f : Fr, f.x = X + (nsum (colN X fw side) (k % cnt X fw side) : Nat) → f.y = Y + (nsum (colN Y fh side) (k / cnt X fw side) : Nat) → f.w = (colN X fw side (k % cnt X fw side) : Nat) → f.h = (colN Y fh side (k / cnt X fw side) : Nat) →
          f.V = madeL (cutP xs (colN X fw side (k % cnt X fw side)) fw (nsum (colN X fw side) (k % cnt X fw side)) (nsum (colN Y fh side) (k / cnt X fw side))) (4 * (colN X fw side (k % cnt X fw side) * colN Y fh side (k / cnt X fw side))) → IsPart X Y fw fh side xs k f) := Lib.hid fun f h1 h2 h3 h4 h5 => ⟨h1, h2, h3, h4, h5⟩
      have hkT : k < cnt Y fh side * cnt X fw side := by rw [← HT.out]; exact hlt
      clear e1
      generalize nsum (colN X fw side) (k % cnt X fw side) = S at *
      generalize nsum (colN Y fh side) (k / cnt X fw side) = U at *
      generalize colN X fw side (k % cnt X fw side) = A at *
      generalize colN Y fh side (k / cnt X fw side) = E at *
      obtain ⟨V, hV⟩ : ∃ V, V = madeL (cutP xs A fw S U) (4 * (A * E)) := ⟨_, rfl⟩
      have hVl0 : V.length = 4 * (A * E) := by rw [hV, madeL_len]
      have hpr := (Fr.right (part_region (by omega) Hr.out hkT (HP.out ⟨X + (S : Int), Y + (U : Int), A, E, V, none, 0⟩ rfl rfl rfl rfl hV)).1).1
      have hAE : 0 < A * E := Nat.mul_pos e2 e3
      have hAE2 : A * E ≤ 64 := Nat.mul_le_mul (show A ≤ 8 by omega) (show E ≤ 8 by omega)
      have HCut : Hid (∀ w', Rd w' g0 0 xs → Calls Try.prog 10 #[.agg #[.int .i64 X, .int .i64 Y, .int .i64 (fw : Int), .int .i64 (fh : Int), .slice (some ⟨g0, 0, none⟩) N N], .agg #[.int .i64 (X + (S : Int)), .int .i64 (Y + (U : Int)), .int .i64 (A : Int), .int .i64 (E : Int)]] w' fun e w'' => ∃ g, e = .returned (.tuple #[.agg #[.int .i64 (X + (S : Int)), .int .i64 (Y + (U : Int)), .int .i64 (A : Int), .int .i64 (E : Int), .slice (some ⟨g, 0, none⟩) (4 * (A * E)) (4 * (A * E))], .int .i64 0]) ∧ w'.heap.size ≤ g ∧ Row w'' g (4 * (A * E)) V ∧ Below w'.heap.size w' w'') := Lib.hid fun w' h => by
        rw [hV]
        exact frame_Cut_ok X Y (X + (S : Int)) (Y + (U : Int)) fw fh A E S U g0 0 N N xs w' (by unfold checkFrame; rw [if_pos Hr.out, if_pos]; rw [HN.out, Int.mul_assoc]; push_cast; rfl) Hr.out hpr HN.out Hxl.out h rfl rfl (by exact_mod_cast e4) (by exact_mod_cast e5)
      have HPf := Lib.hid (fun g c => HP.out ⟨X + (S : Int), Y + (U : Int), A, E, V, some ⟨g, 0, none⟩, c⟩ rfl rfl rfl rfl hV)
      obtain ⟨M4, hM4⟩ : ∃ M, M = 4 * (A * E) := ⟨_, rfl⟩
      rw [← hM4] at HCut hVl0
      have hM1 : 0 < M4 ∧ M4 ≤ 256 := by omega
      have HVl := Lib.hid hVl0
      clear hV hVl0 hpr hAE hAE2 hkT HP e2 e3 e4 e5 hM4
      have c0 := (hB.cell (p := ⟨gt, k * 4, none⟩) hgt).trans m0
      have c1 := (hB.cell (p := ⟨gt, k * 4 + 1, none⟩) hgt).trans m1
      have c2 := (hB.cell (p := ⟨gt, k * 4 + 2, none⟩) hgt).trans m2
      have c3 := (hB.cell (p := ⟨gt, k * 4 + 3, none⟩) hgt).trans m3
      clear m0 m1 m2 m3
      go_upto_region 15 with fail
      refine name_world ?_
      intro w10 hw10
      have x18 : Bx w10 wr.heap.size 23 #[.int .i64 (X + (S : Int)), .int .i64 (Y + (U : Int)), .int .i64 (A : Int), .int .i64 (E : Int)] := by rw [hw10]; exact Bx.new _ _ _
      have hb : Below wr.heap.size wr w10 := by rw [hw10]; exact (Below.refl _ _).alloc (Nat.le_refl _) _
      have HPS2 := Lib.hid (HPS.out.keep hb)
      have hB2 := bcall hB hb
      clear hw10 hb c0 c1 c2 c3 HPS
      have x5 := X5.out.keep hB2
      obtain ⟨q5, f5, l5⟩ := x5.all
      obtain ⟨q18, f18, l18⟩ := x18.all
      go_wp2_with fail
      refine (HCut.out _ (XG.out.keep hB2)).mono ?_
      rintro e w11 ⟨g, rfl, hg, hrow, hb⟩
      have HPS3 := Lib.hid (HPS2.out.keep hb)
      have hown : ∀ b, P.length ≤ b → True := fun _ _ => trivial
      have hnog : Hid (vp.ownBlock ≠ some g) := Lib.hid fun e => by
        have h := (World.ownsRow.lt HPS2.out.1 g e).2
        omega
      have hgB9 : w9.heap.size ≤ g := Nat.le_trans hB2.size hg
      have hB3 := bcall hB2 hb
      have Hrd := Lib.hid hrow.rd
      clear q5 f5 l5 q18 f18 l18
      clear hb hrow hown HPS2 hB2 x5 x18 HCut hg
      go_upto_region 16 with fail
      refine name_world ?_
      intro w12 hw12
      have x19 : Bx w12 w11.heap.size 26 #[.int .i64 (X + (S : Int)), .int .i64 (Y + (U : Int)), .int .i64 (A : Int), .int .i64 (E : Int), .slice (some ⟨g, 0, none⟩) M4 M4] := by rw [hw12]; exact Bx.new _ _ _
      have hb : Below w11.heap.size w11 w12 := by rw [hw12]; exact (Below.refl _ _).alloc (Nat.le_refl _) _
      have HPS4 := Lib.hid (HPS3.out.keep hb)
      have hB4 := bcall hB3 hb
      have Hrd2 := Lib.hid (Hrd.out.keep hb)
      clear hw12 hb HPS3 hB3 Hrd
      obtain ⟨q19, f19, l19⟩ := x19.all
      go_upto_region 18 with fail
      have hal : Hid (Below w12.heap.size w12 (w12.alloc (.cells #[.int .i64 (X + (S : Int)), .int .i64 (Y + (U : Int)), .int .i64 (A : Int), .int .i64 (E : Int), .slice (some ⟨g, 0, none⟩) M4 M4] 26))) := Lib.hid ((Below.refl _ _).alloc (Nat.le_refl _) _)
      have hsz12 := hB4.size
      go_wp2_with (at_builtin; refine fr_append1 (B := w9.heap.size) (L := P) (f := ⟨X + (S : Int), Y + (U : Int), A, E, V, some ⟨g, 0, none⟩, M4⟩) rfl (.tmp 67) (.tmp 69) rfl rfl w12.heap.size 1 rfl (HPS4.out.keep hal.out).1 ?ea1 ?ea2 ?ea3 ?_)
      case ea1 =>
        have h := Bx.new w12 26 #[.int .i64 (X + (S : Int)), .int .i64 (Y + (U : Int)), .int .i64 (A : Int), .int .i64 (E : Int), .slice (some ⟨g, 0, none⟩) M4 M4]
        unfold frC Fr.pv
        rw [HVl.out]
        exact h
      case ea2 => rw [HPl.out]; omega
      case ea3 => simp; omega
      intro v5 w13 har
      have HPS5 : Hid (PSt X Y fw fh side xs w9.heap.size w13 v5 (P ++ [⟨X + (S : Int), Y + (U : Int), A, E, V, some ⟨g, 0, none⟩, M4⟩])) := Lib.hid ((HPS4.out.keep hal.out).add har.own (by rw [HPl.out]; exact HPf.out g M4) har.keeps har.at_ har.size rfl hgB9 HVl.out.symm (by show 0 < V.length; rw [HVl.out]; omega) (by show V.length ≤ 1000000; rw [HVl.out]; omega) (Hrd2.out.keep hal.out) hnog.out)
      have hB5 := har.below _ (bcall hB4 hal.out)
      clear har HPS4 hB4 Hrd2 hnog HPf q19 f19 l19 x19
      go_wp2_with fail
      go_roundw
      case rel => exact ⟨k + 1, _, _, by omega, by go_num, rfl, Lib.hid (by rw [List.length_append, HPl.out]; rfl), HPS5, hB5⟩
      case measure => simp [intOf]; omega
    · have hTk : T = k := by omega
      subst hTk
      obtain ⟨hpo, hpi, hpv⟩ := HPS.out
      have HPok := Lib.hid HPS.out.ok
      have HPfar := Lib.hid HPS.out.far
      rcases hpo.form with ⟨h0, _⟩ | ⟨gp, cap, hvp, hgB, hgl, hlc, hcm, hcell⟩
      · exfalso; have := HPl.out; rw [h0] at this; simp at this; omega
      rw [HPl.out] at hvp hlc
      subst hvp
      unfold maxLen at hcm
      have HCell := Lib.hid hcell
      have HPi := Lib.hid hpi
      clear hpo hpi hpv hcell HPS
      obtain ⟨K0, hK0⟩ : ∃ K, turn.tmod (T : Int) = K := ⟨_, rfl⟩
      have k1 : -(T : Int) < K0 ∧ K0 < (T : Int) := by rw [← hK0]; exact ⟨Int.lt_tmod_of_pos _ (by omega), Int.tmod_lt_of_pos _ (by omega)⟩
      obtain ⟨K, hK⟩ : ∃ K : Nat, (K0 + (T : Int)).tmod (T : Int) = (K : Int) := ⟨((K0 + (T : Int)).tmod (T : Int)).toNat, by have := Int.tmod_nonneg (T : Int) (show 0 ≤ K0 + (T : Int) by omega); omega⟩
      have hKT : K < T := by have := Int.tmod_lt_of_pos (K0 + (T : Int)) (show 0 < (T : Int) by omega); omega
      have hT64 : T ≤ 64 := by
        have h2 := cnt_small Y fh side t1 (by omega)
        have h3 := cnt_small X fw side t1 (by omega)
        rw [HT.out]
        exact Nat.mul_le_mul (show cnt Y fh side ≤ 8 by omega) (show cnt X fw side ≤ 8 by omega)
      have hT0 : (T : Int) ≠ 0 := by omega
      have hTc : T = cnt Y fh side * cnt X fw side := HT.out
      obtain ⟨VC, hVC⟩ : ∃ V, V = madeL (fun p k => xs.getD (4 * p + k) 0) N := ⟨_, rfl⟩
      have HVC : Hid (VC.length = N) := Lib.hid (by rw [hVC, madeL_len])
      have HJ0 : Hid (∀ w' v, SlF w' v (rot P K) → Calls Try.prog 6 #[.agg #[.int .i64 X, .int .i64 Y, .int .i64 (fw : Int), .int .i64 (fh : Int)], v] w' fun e w'' => ∃ g c, e = .returned (.tuple #[.agg #[.int .i64 X, .int .i64 Y, .int .i64 (fw : Int), .int .i64 (fh : Int), .slice (some ⟨g, 0, none⟩) N c], .int .i64 0]) ∧ w'.heap.size ≤ g ∧ Rd w'' g 0 VC ∧ Below w'.heap.size w' w'') := Lib.hid fun w' v h => (frame_JoinR X Y fw fh v (rot P K) w' h).mono fun e w'' hj => by
        have he := rot_err (K := K) t1 Hr.out HPi.out (by rw [HPl.out]; exact hTc) (by rw [HPl.out]; exact hKT)
        have ho := rot_out (K := K) t1 (by omega) (by omega) HPi.out (by rw [HPl.out]; exact hTc) (by rw [HPl.out]; exact hKT)
        obtain ⟨hj, hb⟩ := hj
        rcases hj with ⟨h0, _⟩ | ⟨_, g, c, rfl, _, hg, hrd⟩
        · exact absurd he h0
        · rw [Int.toNat_natCast, Int.toNat_natCast, ho, ← HN.out, ← hVC] at hrd
          exact ⟨g, c, by rw [Int.toNat_natCast, Int.toNat_natCast, ← HN.out], hg, hrd, hb⟩
      have HJ10 : Hid (∀ w' v, SlF w' v ((rot P K).drop 1) → Calls Try.prog 6 #[.agg #[.int .i64 X, .int .i64 Y, .int .i64 (fw : Int), .int .i64 (fh : Int)], v] w' fun e w'' => ∃ (a b c d : Int) (sa : Option Addr) (sn sc : Nat), e = .returned (.tuple #[.agg #[.int .i64 a, .int .i64 b, .int .i64 c, .int .i64 d, .slice sa sn sc], .int .i64 10]) ∧ Below w'.heap.size w' w'') := Lib.hid fun w' v h => (frame_JoinR X Y fw fh v _ w' h).mono fun e w'' hj => by
        have he := rest_err (K := K) t1 Hr.out HPi.out (by rw [HPl.out]; exact hTc) (by rw [HPl.out]; exact hKT)
        obtain ⟨a, b, c, d, sa, sn, sc, rfl, _, hb⟩ := hj.form
        rw [he]
        exact ⟨a, b, c, d, sa, sn, sc, rfl, hb⟩
      have HCl : Hid (∀ w', Rd w' g0 0 xs → Calls Try.prog 13 #[.agg #[.int .i64 X, .int .i64 Y, .int .i64 (fw : Int), .int .i64 (fh : Int), .slice (some ⟨g0, 0, none⟩) N N]] w' fun e w'' => ∃ gc cc, e = .returned (.agg #[.int .i64 X, .int .i64 Y, .int .i64 (fw : Int), .int .i64 (fh : Int), .slice (some ⟨gc, 0, none⟩) N cc]) ∧ Rd w'' gc 0 VC ∧ Below w'.heap.size w' w'') := Lib.hid fun w' h => by
        have hm := Nat.mul_le_mul (show fw ≤ 8 by omega) (show fh ≤ 8 by omega)
        refine (ref_Clean X Y fw fh (fw * fh) g0 0 N N xs w' (by omega) (by omega) (by omega) (by omega) (by omega) (by omega) (by omega) (by omega) rfl (by omega) HN.out (Nat.le_refl _) Hxl.out h).mono ?_
        rintro e w'' ⟨gc, cc, rfl, _, _, hrd, hb⟩
        rw [← HN.out] at hrd ⊢
        rw [← hVC] at hrd
        exact ⟨gc, cc, rfl, hrd, hb⟩
      have HR1 : Hid (∀ w', Below wr.heap.size wr w' → RowF w' ⟨gp, K * 5, none⟩ (P.drop K)) := Lib.hid fun w' hb => ⟨Nat.lt_of_lt_of_le hgl hb.size, fun j u hj => by
        rw [frCells_drop] at hj
        rw [Addr.add_lit]
        exact (hb.cell (p := ⟨gp, K * 5 + j, none⟩) hgl).trans (HCell.out _ u hj)⟩
      have HR2 : Hid (∀ w', Below wr.heap.size wr w' → RowF w' ⟨gp, 0, none⟩ (P.take K)) := Lib.hid fun w' hb => ⟨Nat.lt_of_lt_of_le hgl hb.size, fun j u hj => by
        rw [Addr.add_lit, Nat.zero_add]
        exact (hb.cell (p := ⟨gp, j, none⟩) hgl).trans (HCell.out _ u (frCells_take _ _ _ _ hj))⟩
      have hsl1 := fun w => run_slice_from gp T cap K w (by omega) (by omega)
      have hsl2 := fun w => run_slice_to gp T cap K w (by omega)
      clear hVC hTc
      go_upto_region 21 with fail
      refine wp_region_grd 8 (fun _ => false) (fun q u w' => if q = 6 then ∃ gn, u = .slice (some ⟨gn, 0, none⟩) 2 2 ∧ Bx w' gn 27 #[.slice (some ⟨gp, K * 5, none⟩) (T - K) (cap - K), .slice (some ⟨gp, 0, none⟩) K cap] else if q = 7 then OutF wr.heap.size w' u (rot P K) else u = [.slice (some ⟨gp, 0, none⟩) T cap, .int .i64 (K : Int), .slice (some ⟨gp, K * 5, none⟩) (T - K) (cap - K), .slice (some ⟨gp, 0, none⟩) T cap, .int .i64 (K : Int), .slice (some ⟨gp, 0, none⟩) K cap, undef, undef].getD q undef) (fun _ => false) (fun w' => Below wr.heap.size wr w') (by kernel_rfl) (by kernel_rfl) (fun _ _ _ _ _ h => h)
        (fun _ _ h e => e.trans (h.mono e.size)) (fun t u a' b' hb h => ?_) (Below.refl _ _).drew ?_ ?_ ?_
      · split
        · rename_i h4
          rw [if_pos h4] at h
          obtain ⟨gn, e1, e2⟩ := h
          exact ⟨gn, e1, e2.keep hb⟩
        · rename_i h4
          rw [if_neg h4] at h
          split
          · rename_i h5
            rw [if_pos h5] at h
            exact OutF.below h hb
          · rename_i h5
            rw [if_neg h5] at h
            exact h
      · intro t op ht hlt hop
        clear hlt
        rcases (by omega : t = 0 ∨ t = 1 ∨ t = 2 ∨ t = 3 ∨ t = 4 ∨ t = 5 ∨ t = 6 ∨ t = 7) with rfl | rfl | rfl | rfl | rfl | rfl | rfl | rfl
        all_goals simp only [List.getElem?_cons_zero, List.getElem?_cons_succ, Option.some.injEq] at hop
        all_goals subst hop
        all_goals intro a wx hE hag hdep
        · refine grd_none rfl ?_
          have e0 := slot_eq (hag 16 rfl)
          exact rel_pure _ rfl rfl (by simp [go_sem, e0])
        · refine grd_none rfl ?_
          have e0 := slot_eq (hag 21 rfl)
          exact rel_pure _ rfl rfl (by simp [go_sem, e0])
        · refine grd_none rfl ?_
          have e0 := slot_eq (hdep ⟨0, .data⟩ (by simp) rfl)
          have e1 := slot_eq (hdep ⟨1, .data⟩ (by simp) rfl)
          exact rel_pure _ rfl rfl (by simp [go_sem, e0, e1, hsl1])
        · refine grd_none rfl ?_
          have e0 := slot_eq (hag 16 rfl)
          exact rel_pure _ rfl rfl (by simp [go_sem, e0])
        · refine grd_none rfl ?_
          have e0 := slot_eq (hag 21 rfl)
          exact rel_pure _ rfl rfl (by simp [go_sem, e0])
        · refine grd_none rfl ?_
          have e0 := slot_eq (hdep ⟨3, .data⟩ (by simp) rfl)
          have e1 := slot_eq (hdep ⟨4, .data⟩ (by simp) rfl)
          exact rel_pure _ rfl rfl (by simp [go_sem, e0, e1, hsl2])
        · refine grd_none rfl ?_
          have e0 := slot_eq (hdep ⟨2, .data⟩ (by simp) rfl)
          have e1 := slot_eq (hdep ⟨5, .data⟩ (by simp) rfl)
          exact rel_val (v := .slice (some ⟨wx.heap.size, 0, none⟩) 2 2) (w' := wx.alloc (.cells #[.slice (some ⟨gp, K * 5, none⟩) (T - K) (cap - K), .slice (some ⟨gp, 0, none⟩) K cap] 27)) (by simp [go_sem, e0, e1]) ⟨wx.heap.size, rfl, Bx.new _ _ _⟩ (bnew (Below.refl _ _)) (fun h => by cases h)
        · refine grd_none rfl ?_
          obtain ⟨gn, e0, hgx⟩ := hdep ⟨6, .data⟩ (by simp) rfl
          have e0 := slot_eq e0
          refine rel_call (f := 11) (args := #[.slice (some ⟨gn, 0, none⟩) 2 2]) (run_go_call Try.func11 (by kernel_rfl) (by kernel_rfl) _ _ _ _ _ _ _ _ _ _ (by simp [Act.eval, e0])) rfl ?_
          refine (slices_ConcatF gp (K * 5) gp 0 (T - K) (cap - K) K cap (P.drop K) (P.take K) wx hgx (by rw [List.length_drop, HPl.out]) (by rw [List.length_take, HPl.out]; omega) (HR1.out wx hE) (HR2.out wx hE) (by omega) (by omega)).mono ?_
          rintro e w' ⟨v, rfl, ho, hbx⟩
          exact ⟨_, rfl, ho.base hE.size, hbx⟩
      · intro t op ht hlt; cases hlt
      intro vs wy hE hvs _
      have ho1 : OutF wr.heap.size wy (vs 7) (rot P K) := hvs 7 (by omega)
      simp only [List.drop_succ_cons, List.drop_zero, putAll, dstAt, List.getElem?_toArray, List.getElem?_cons_zero, List.getElem?_cons_succ, Option.bind_some, Act.put, List.setIfInBounds_toArray, List.set_cons_zero, List.set_cons_succ]
      have x5 := (X5.out.keep hB).keep hE
      have x11 := (X11.out.keep hB).keep hE
      have xg := (XG.out.keep hB).keep hE
      have HOK : Hid (∀ f, f ∈ rot P K → FrOk wy f) := Lib.hid fun f hf => (HPok.out f (mem_rot hf)).keep hE
      have hBW : Below W.heap.size W wy := B.trans ((hB.mono B.size).trans (hE.mono (Nat.le_trans B.size hB.size)))
      clear hsl1 hsl2 HR1 HR2 hvs hB hE HPok HCell
      generalize vs 7 = vq at *
      rcases ho1.form with ⟨h0, _⟩ | ⟨gq, capq, hvq, hgq, hgql, hqc, hqm, hqcell⟩
      · exfalso; have h1 := rot_len P K (by rw [HPl.out]; omega); rw [h0, HPl.out] at h1; simp at h1; omega
      rw [rot_len P K (by rw [HPl.out]; omega), HPl.out] at hvq hqc
      subst hvq
      unfold maxLen at hqm
      have hrl : (rot P K).length = T := by rw [rot_len P K (by rw [HPl.out]; omega), HPl.out]
      have HSF : Hid (SlF wy (.slice (some ⟨gq, 0, none⟩) T capq) (rot P K)) := Lib.hid (by
        have h := rows_slF (o := 0) (c := capq) (fun j u hj => by rw [Nat.zero_add]; exact hqcell j u hj) hgql (by omega) HOK.out
        rw [hrl] at h
        exact h)
      have HSR : Hid (∀ w', Below wy.heap.size wy w' → ∀ o, (T = 1 ∨ o = 5) → SlF w' (.slice (some ⟨gq, o, none⟩) (T - 1) (capq - 1)) ((rot P K).drop 1)) := Lib.hid fun w' hb o ho => by
        have hl : ((rot P K).drop 1).length = T - 1 := by rw [List.length_drop, hrl]
        rcases ho with h1 | rfl
        · have hn : (rot P K).drop 1 = [] := List.drop_eq_nil_of_le (by omega)
          rw [hn, h1]
          exact ⟨_, _, rfl, Nat.zero_le _, .inl rfl, fun k hk => by simp at hk⟩
        · have h := rows_slF (w := wy) (g := gq) (o := 5) (c := capq - 1) (L := (rot P K).drop 1) (fun j u hj => by rw [frCells_drop] at hj; exact hqcell _ u hj) hgql (by omega) (fun f hf => HOK.out f (List.mem_of_mem_drop hf))
          rw [hl] at h
          exact h.keep hb
      clear hqcell ho1 hrl HOK
      obtain ⟨q5, f5, l5⟩ := x5.all
      go_upto_region 22 with fail
      go_wp2_with fail
      refine (HJ0.out _ _ HSF.out).mono ?_
      rintro e w14 ⟨g1, n1, rfl, hg1, hrd, hb⟩
      have Hrd0 := Lib.hid hrd
      replace x11 := x11.keep hb
      replace x5 := x5.keep hb
      replace xg := xg.keep hb
      have hBy := hb
      have hBW2 := bcall hBW hb
      have hp11y : p11 < wy.heap.size := by omega
      clear q5 f5 l5
      clear hb hrd HSF HJ0
      obtain ⟨q11, f11, l11⟩ := x11.all
      go_upto_region 23 with fail
      refine name_world ?_
      intro w15 hw15
      have Hrd1 : Hid (Rd w15 g1 0 VC) := Lib.hid (by rw [hw15]; exact Only.rd (b := p11) ((((((Only.refl _ _).set _ _).set _ _).set _ _).set _ _).set _ _) (by omega) Hrd0.out)
      have y11 : Bx w15 p11 26 #[.int .i64 X, .int .i64 Y, .int .i64 (fw : Int), .int .i64 (fh : Int), .slice (some ⟨g1, 0, none⟩) N n1] := by rw [hw15]; exact (Bx.set (Bx.set (Bx.set (Bx.set (Bx.set x11 0 _) 1 _) 2 _) 3 _) 4 _)
      replace x5 : Bx w15 W.heap.size 26 #[.int .i64 X, .int .i64 Y, .int .i64 (fw : Int), .int .i64 (fh : Int), .slice (some ⟨g0, 0, none⟩) N N] := by rw [hw15]; exact (Bx.other (Bx.other (Bx.other (Bx.other (Bx.other x5 _ _ (by first | omega | (simp; done) | (simp; omega))) _ _ (by first | omega | (simp; done) | (simp; omega))) _ _ (by first | omega | (simp; done) | (simp; omega))) _ _ (by first | omega | (simp; done) | (simp; omega))) _ _ (by first | omega | (simp; done) | (simp; omega)))
      replace xg : Rd w15 g0 0 xs := by rw [hw15]; exact Only.rd (b := p11) ((((((Only.refl _ _).set _ _).set _ _).set _ _).set _ _).set _ _) (by omega) xg
      have HON : Hid (∀ w' o, Below w15.heap.size w15 w' → (T = 1 ∨ o = 5) → SlF w' (.slice (some ⟨gq, o, none⟩) (T - 1) (capq - 1)) ((rot P K).drop 1)) := Lib.hid fun w' o hb ho => by
        have h1 := HSR.out wy (Below.refl _ _) o ho
        have hoff : Off p11 wy.heap.size wy w15 := by rw [hw15]; exact ((((((Off.of hBy).set).set).set).set).set)
        refine slF_off h1 (hoff.then hb (Nat.le_refl _)) (by omega) fun f hf => ?_
        obtain ⟨gv, e1, e2⟩ := HPfar.out f (mem_rot (List.mem_of_mem_drop hf))
        exact ⟨gv, e1, by omega⟩
      have hBW3 : Below W.heap.size W w15 := by rw [hw15]; exact bput (by omega) (bput (by omega) (bput (by omega) (bput (by omega) (bput (by omega) (hBW2)))))
      clear q11 f11 l11
      clear hw15 x11 Hrd0 hBy hBW2 HSR
      have x11 := y11
      clear y11
      refine wp_region_grd 8 (fun _ => false) (fun q u w' => if q = 5 then ∃ gc cc, u = .agg #[.int .i64 X, .int .i64 Y, .int .i64 (fw : Int), .int .i64 (fh : Int), .slice (some ⟨gc, 0, none⟩) N cc] ∧ Rd w' gc 0 VC else u = [.int .i64 0, .bool false, .bool false, .agg #[.int .i64 X, .int .i64 Y, .int .i64 (fw : Int), .int .i64 (fh : Int), .slice (some ⟨g1, 0, none⟩) N n1], .agg #[.int .i64 X, .int .i64 Y, .int .i64 (fw : Int), .int .i64 (fh : Int), .slice (some ⟨g0, 0, none⟩) N N], undef, .bool true, .bool false].getD q undef) (fun _ => false) (fun w' => Below w15.heap.size w15 w') (by kernel_rfl) (by kernel_rfl) (fun _ _ _ _ _ h => h)
        (fun _ _ h e => e.trans (h.mono e.size)) (fun t u a' b' hb h => ?_) (Below.refl _ _).drew ?_ ?_ ?_
      · split
        · rename_i h4
          rw [if_pos h4] at h
          obtain ⟨gc, cc, e1, e2⟩ := h
          exact ⟨gc, cc, e1, e2.keep hb⟩
        · rename_i h4
          rw [if_neg h4] at h
          exact h
      · intro t op ht hlt hop
        clear hlt
        rcases (by omega : t = 0 ∨ t = 1 ∨ t = 2 ∨ t = 3 ∨ t = 4 ∨ t = 5 ∨ t = 6 ∨ t = 7) with rfl | rfl | rfl | rfl | rfl | rfl | rfl | rfl
        all_goals simp only [List.getElem?_cons_zero, List.getElem?_cons_succ, Option.some.injEq] at hop
        all_goals subst hop
        all_goals intro a wx hE hag hdep
        · refine grd_none rfl ?_
          have e0 := slot_eq (hag 12 rfl)
          exact rel_pure _ rfl rfl (by simp [go_sem, e0])
        · refine grd_none rfl ?_
          have e0 := slot_eq (hdep ⟨0, .data⟩ (by simp) rfl)
          exact rel_pure _ rfl rfl (by simp [go_sem, e0])
        · refine grd_none rfl ?_
          have e0 := slot_eq (hdep ⟨1, .data⟩ (by simp) rfl)
          exact rel_pure _ rfl rfl (by simp [go_sem, e0])
        · refine grd_yes (j := 2) (b := false) rfl (hdep ⟨2, .guard⟩ (by simp) rfl) ?_
          have e0 := slot_eq (hag 11 rfl)
          have hq := (x11.keep hE).all.1
          exact rel_pure _ rfl rfl (by simp [go_sem, e0, hq])
        · refine grd_yes (j := 2) (b := false) rfl (hdep ⟨2, .guard⟩ (by simp) rfl) ?_
          have e0 := slot_eq (hag 5 rfl)
          have hq := (x5.keep hE).all.1
          exact rel_pure _ rfl rfl (by simp [go_sem, e0, hq])
        · refine grd_yes (j := 2) (b := false) rfl (hdep ⟨2, .guard⟩ (by simp) rfl) ?_
          have e0 := slot_eq (hdep ⟨4, .data⟩ (by simp) rfl)
          refine rel_call (f := 13) (args := #[.agg #[.int .i64 X, .int .i64 Y, .int .i64 (fw : Int), .int .i64 (fh : Int), .slice (some ⟨g0, 0, none⟩) N N]]) (run_go_call Try.func13 (by kernel_rfl) (by kernel_rfl) _ _ _ _ _ _ _ _ _ _ (by simp [Act.eval, e0])) rfl ?_
          refine (HCl.out wx (xg.keep hE)).mono ?_
          rintro e w' ⟨gc, cc, rfl, hrd2, hbx⟩
          exact ⟨_, rfl, ⟨gc, cc, rfl, hrd2⟩, hbx⟩
        · refine grd_yes (j := 2) (b := false) rfl (hdep ⟨2, .guard⟩ (by simp) rfl) ?_
          have e0 := slot_eq (hdep ⟨3, .data⟩ (by simp) rfl)
          obtain ⟨gc, cc, e1, hrd2⟩ := hdep ⟨5, .data⟩ (by simp) rfl
          have e1 := slot_eq e1
          refine rel_call (f := 12) (args := #[.agg #[.int .i64 X, .int .i64 Y, .int .i64 (fw : Int), .int .i64 (fh : Int), .slice (some ⟨g1, 0, none⟩) N n1], .agg #[.int .i64 X, .int .i64 Y, .int .i64 (fw : Int), .int .i64 (fh : Int), .slice (some ⟨gc, 0, none⟩) N cc]]) (run_go_call Try.func12 (by kernel_rfl) (by kernel_rfl) _ _ _ _ _ _ _ _ _ _ (by simp [Act.eval, e0, e1])) rfl ?_
          refine (ref_SameFrame _ _ _ _ _ _ _ _ _ _ _ VC wx (by omega) HVC.out (Hrd1.out.keep hE) hrd2).mono ?_
          rintro e w' ⟨rfl, hbx⟩
          exact ⟨_, rfl, rfl, hbx⟩
        · refine grd_yes (j := 2) (b := false) rfl (hdep ⟨2, .guard⟩ (by simp) rfl) ?_
          have e0 := slot_eq (hdep ⟨6, .data⟩ (by simp) rfl)
          exact rel_pure _ rfl rfl (by simp [go_sem, e0])
      · intro t op ht hlt; cases hlt
      intro vs wz hE hvs _
      have k2 : vs 2 = .bool false := hvs 2 (by omega)
      have k7 : vs 7 = .bool false := hvs 7 (by omega)
      simp only [List.drop_succ_cons, List.drop_zero, putAll, dstAt, List.getElem?_toArray, List.getElem?_cons_zero, List.getElem?_cons_succ, Option.bind_some, Act.put, List.setIfInBounds_toArray, List.set_cons_zero, List.set_cons_succ, k2, k7]
      clear hvs k2 k7
      replace x5 := x5.keep hE
      have hBW4 := bcall hBW3 hE
      have HON2 : Hid (∀ w' o, Below wz.heap.size wz w' → (T = 1 ∨ o = 5) → SlF w' (.slice (some ⟨gq, o, none⟩) (T - 1) (capq - 1)) ((rot P K).drop 1)) := Lib.hid fun w' o hb ho => HON.out w' o (bcall hE hb) ho
      clear hE xg x11 Hrd1 HON hBW3 HCl
      go_upto_region 25 with fail
      by_cases hc1 : capq = 1
      · have hT1' : T = 1 := by omega
        subst hc1
        subst hT1'
        have hsl3 := fun w => run_slice_last gq w
        have HSl3 : Hid (∀ w', Below wz.heap.size wz w' → SlF w' (.slice (some ⟨gq, 0, none⟩) 0 0) ((rot P K).drop 1)) := Lib.hid fun w' hb => HON2.out w' 0 hb (.inl rfl)
        refine wp_region_grd 8 (fun _ => false) (fun q u w' => if q = 4 then ∃ (a b c d : Int) (sa : Option Addr) (sn sc : Nat), u = .tuple #[.agg #[.int .i64 a, .int .i64 b, .int .i64 c, .int .i64 d, .slice sa sn sc], .int .i64 10] else if q = 5 then ∃ (a b c d : Int) (sa : Option Addr) (sn sc : Nat), u = .tuple #[.agg #[.int .i64 a, .int .i64 b, .int .i64 c, .int .i64 d, .slice sa sn sc], .int .i64 10] else if q = 6 then True else u = [.pointer (some ⟨W.heap.size, 0, none⟩), .agg #[.int .i64 X, .int .i64 Y, .int .i64 (fw : Int), .int .i64 (fh : Int)], .slice (some ⟨gq, 0, none⟩) 1 1, .slice (some ⟨gq, 0, none⟩) 0 0, undef, undef, undef, .int .i64 10].getD q undef) (fun _ => false) (fun w' => Below wz.heap.size wz w') (by kernel_rfl) (by kernel_rfl) (fun _ _ _ _ _ h => h)
          (fun _ _ h e => e.trans (h.mono e.size)) (fun t u a' b' hb h => ?_) (Below.refl _ _).drew ?_ ?_ ?_
        · exact h
        · intro t op ht hlt hop
          clear hlt
          rcases (by omega : t = 0 ∨ t = 1 ∨ t = 2 ∨ t = 3 ∨ t = 4 ∨ t = 5 ∨ t = 6 ∨ t = 7) with rfl | rfl | rfl | rfl | rfl | rfl | rfl | rfl
          all_goals simp only [List.getElem?_cons_zero, List.getElem?_cons_succ, Option.some.injEq] at hop
          all_goals subst hop
          all_goals intro a wx hE hag hdep
          · refine grd_none rfl ?_
            have e0 := slot_eq (hag 5 rfl)
            exact rel_pure _ rfl rfl (by simp [go_sem, e0])
          · refine grd_none rfl ?_
            have e0 := slot_eq (hdep ⟨0, .data⟩ (by simp) rfl)
            have hq := (x5.keep hE).all.1
            exact rel_pure _ rfl rfl (by simp [go_sem, e0, hq])
          · refine grd_none rfl ?_
            have e0 := slot_eq (hag 16 rfl)
            exact rel_pure _ rfl rfl (by simp [go_sem, e0])
          · refine grd_none rfl ?_
            have e0 := slot_eq (hdep ⟨2, .data⟩ (by simp) rfl)
            exact rel_pure _ rfl rfl (by simp [go_sem, e0, hsl3])
          · refine grd_none rfl ?_
            have e0 := slot_eq (hdep ⟨1, .data⟩ (by simp) rfl)
            have e1 := slot_eq (hdep ⟨3, .data⟩ (by simp) rfl)
            refine rel_call (f := 6) (args := #[.agg #[.int .i64 X, .int .i64 Y, .int .i64 (fw : Int), .int .i64 (fh : Int)], .slice (some ⟨gq, 0, none⟩) 0 0]) (run_go_call Try.func6 (by kernel_rfl) (by kernel_rfl) _ _ _ _ _ _ _ _ _ _ (by simp [Act.eval, e0, e1])) rfl ?_
            refine (HJ10.out wx _ (HSl3.out wx hE)).mono ?_
            rintro e w' ⟨a, b, c, d, sa, sn, sc, rfl, hbx⟩
            exact ⟨_, rfl, ⟨a, b, c, d, sa, sn, sc, rfl⟩, hbx⟩
          · refine grd_none rfl ?_
            obtain ⟨a, b, c, d, sa, sn, sc, e0⟩ := hdep ⟨4, .data⟩ (by simp) rfl
            have e0 := slot_eq e0
            exact rel_pure _ rfl ⟨a, b, c, d, sa, sn, sc, rfl⟩ (by simp [go_sem, e0])
          · refine grd_none rfl ?_
            obtain ⟨a, b, c, d, sa, sn, sc, e0⟩ := hdep ⟨5, .data⟩ (by simp) rfl
            have e0 := slot_eq e0
            exact rel_pure (.agg #[.int .i64 a, .int .i64 b, .int .i64 c, .int .i64 d, .slice sa sn sc]) rfl trivial (by simp [go_sem, e0])
          · refine grd_none rfl ?_
            obtain ⟨a, b, c, d, sa, sn, sc, e0⟩ := hdep ⟨5, .data⟩ (by simp) rfl
            have e0 := slot_eq e0
            exact rel_pure _ rfl rfl (by simp [go_sem, e0])
        · intro t op ht hlt; cases hlt
        intro vs wq hE hvs _
        have k7 : vs 7 = .int .i64 10 := hvs 7 (by omega)
        simp only [List.drop_succ_cons, List.drop_zero, putAll, dstAt, List.getElem?_toArray, List.getElem?_cons_zero, List.getElem?_cons_succ, Option.bind_some, Act.put, List.setIfInBounds_toArray, List.set_cons_zero, List.set_cons_succ, k7]
        clear hvs k7
        have hBW5 := bcall hBW4 hE
        clear hE hsl3 HSl3 x5
        go_wp2_with fail
        go_ret
        exact ⟨rfl, hBW5⟩
      · have hsl3 : ∀ w, (Instr.slice 27 (.slice (some ⟨gq, 0, none⟩) T capq) (some (.int .i64 1)) none none).run Try.prog w = .ok (.slice (some ⟨gq, 5, none⟩) (T - 1) (capq - 1)) w := fun w => run_slice_from gq T capq 1 w (by omega) (by omega)
        have HSl3 : Hid (∀ w', Below wz.heap.size wz w' → SlF w' (.slice (some ⟨gq, 5, none⟩) (T - 1) (capq - 1)) ((rot P K).drop 1)) := Lib.hid fun w' hb => HON2.out w' 5 hb (.inr rfl)
        refine wp_region_grd 8 (fun _ => false) (fun q u w' => if q = 4 then ∃ (a b c d : Int) (sa : Option Addr) (sn sc : Nat), u = .tuple #[.agg #[.int .i64 a, .int .i64 b, .int .i64 c, .int .i64 d, .slice sa sn sc], .int .i64 10] else if q = 5 then ∃ (a b c d : Int) (sa : Option Addr) (sn sc : Nat), u = .tuple #[.agg #[.int .i64 a, .int .i64 b, .int .i64 c, .int .i64 d, .slice sa sn sc], .int .i64 10] else if q = 6 then True else u = [.pointer (some ⟨W.heap.size, 0, none⟩), .agg #[.int .i64 X, .int .i64 Y, .int .i64 (fw : Int), .int .i64 (fh : Int)], .slice (some ⟨gq, 0, none⟩) T capq, .slice (some ⟨gq, 5, none⟩) (T - 1) (capq - 1), undef, undef, undef, .int .i64 10].getD q undef) (fun _ => false) (fun w' => Below wz.heap.size wz w') (by kernel_rfl) (by kernel_rfl) (fun _ _ _ _ _ h => h)
          (fun _ _ h e => e.trans (h.mono e.size)) (fun t u a' b' hb h => ?_) (Below.refl _ _).drew ?_ ?_ ?_
        · exact h
        · intro t op ht hlt hop
          clear hlt
          rcases (by omega : t = 0 ∨ t = 1 ∨ t = 2 ∨ t = 3 ∨ t = 4 ∨ t = 5 ∨ t = 6 ∨ t = 7) with rfl | rfl | rfl | rfl | rfl | rfl | rfl | rfl
          all_goals simp only [List.getElem?_cons_zero, List.getElem?_cons_succ, Option.some.injEq] at hop
          all_goals subst hop
          all_goals intro a wx hE hag hdep
          · refine grd_none rfl ?_
            have e0 := slot_eq (hag 5 rfl)
            exact rel_pure _ rfl rfl (by simp [go_sem, e0])
          · refine grd_none rfl ?_
            have e0 := slot_eq (hdep ⟨0, .data⟩ (by simp) rfl)
            have hq := (x5.keep hE).all.1
            exact rel_pure _ rfl rfl (by simp [go_sem, e0, hq])
          · refine grd_none rfl ?_
            have e0 := slot_eq (hag 16 rfl)
            exact rel_pure _ rfl rfl (by simp [go_sem, e0])
          · refine grd_none rfl ?_
            have e0 := slot_eq (hdep ⟨2, .data⟩ (by simp) rfl)
            exact rel_pure _ rfl rfl (by simp [go_sem, e0, hsl3])
          · refine grd_none rfl ?_
            have e0 := slot_eq (hdep ⟨1, .data⟩ (by simp) rfl)
            have e1 := slot_eq (hdep ⟨3, .data⟩ (by simp) rfl)
            refine rel_call (f := 6) (args := #[.agg #[.int .i64 X, .int .i64 Y, .int .i64 (fw : Int), .int .i64 (fh : Int)], .slice (some ⟨gq, 5, none⟩) (T - 1) (capq - 1)]) (run_go_call Try.func6 (by kernel_rfl) (by kernel_rfl) _ _ _ _ _ _ _ _ _ _ (by simp [Act.eval, e0, e1])) rfl ?_
            refine (HJ10.out wx _ (HSl3.out wx hE)).mono ?_
            rintro e w' ⟨a, b, c, d, sa, sn, sc, rfl, hbx⟩
            exact ⟨_, rfl, ⟨a, b, c, d, sa, sn, sc, rfl⟩, hbx⟩
          · refine grd_none rfl ?_
            obtain ⟨a, b, c, d, sa, sn, sc, e0⟩ := hdep ⟨4, .data⟩ (by simp) rfl
            have e0 := slot_eq e0
            exact rel_pure _ rfl ⟨a, b, c, d, sa, sn, sc, rfl⟩ (by simp [go_sem, e0])
          · refine grd_none rfl ?_
            obtain ⟨a, b, c, d, sa, sn, sc, e0⟩ := hdep ⟨5, .data⟩ (by simp) rfl
            have e0 := slot_eq e0
            exact rel_pure (.agg #[.int .i64 a, .int .i64 b, .int .i64 c, .int .i64 d, .slice sa sn sc]) rfl trivial (by simp [go_sem, e0])
          · refine grd_none rfl ?_
            obtain ⟨a, b, c, d, sa, sn, sc, e0⟩ := hdep ⟨5, .data⟩ (by simp) rfl
            have e0 := slot_eq e0
            exact rel_pure _ rfl rfl (by simp [go_sem, e0])
        · intro t op ht hlt; cases hlt
        intro vs wq hE hvs _
        have k7 : vs 7 = .int .i64 10 := hvs 7 (by omega)
        simp only [List.drop_succ_cons, List.drop_zero, putAll, dstAt, List.getElem?_toArray, List.getElem?_cons_zero, List.getElem?_cons_succ, Option.bind_some, Act.put, List.setIfInBounds_toArray, List.set_cons_zero, List.set_cons_succ, k7]
        clear hvs k7
        have hBW5 := bcall hBW4 hE
        clear hE hsl3 HSl3 x5
        go_wp2_with fail
        go_ret
        exact ⟨rfl, hBW5⟩
end Go.Proofs.Ytccbhghpghijiaa
