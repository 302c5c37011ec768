/- key.Between. (printed by gen_kff.py) -/
import Derived.Test.YtfkiljhjiogdlaaKfP
namespace Go.Proofs.Ytfkiljhjiogdlaa
open Go.RowKit

set_option maxRecDepth 100000 in
set_option maxHeartbeats 4000000 in
theorem key_Between_err (v : Value) (ks : List Kf) (f : Int) (W : World) (hs : SlK W v ks) (h0 : kfsErr ks ≠ 0) :
    Calls Try.prog 11 #[v, .int .i64 f] W fun e w' => e = .returned (.tuple #[.agg #[.int .i64 0, .float .f32 0, .float .f32 0, .float .f32 0, .float .f32 0, .float .f32 0, .slice none 0 0, .bool false], .int .i64 (kfsErr ks)]) ∧ Below W.heap.size W w' := by
  have HC : Hid (∀ w, SlK w v ks → Calls Try.prog 12 #[v] w fun e w' => e = .returned (.int .i64 (kfsErr ks)) ∧ Below w.heap.size w w') := Lib.hid fun w h => key_CheckFrames v ks w h
  have HS := Lib.hid hs
  have hne : ((kfsErr ks) != 0) = true := by simpa using h0
  obtain ⟨a, c, rfl, -, -, -⟩ := hs
  generalize kfsErr ks = er at *
  clear h0
  obtain ⟨n, hn⟩ : ∃ n, n = ks.length := ⟨_, rfl⟩
  rw [← hn] at HC HS ⊢
  clear hn
  go_enter Try.func11, Try.ntmps11
  go_upto_region 1 with fail
  refine name_world ?_
  intro w0 hw0
  have x4 : Bx w0 W.heap.size 25 #[.int .i64 0, .float .f32 0, .float .f32 0, .float .f32 0, .float .f32 0, .float .f32 0, .slice none 0 0, .bool false] := by rw [hw0]; exact Bx.new _ _ _
  have B : Below W.heap.size W w0 := by rw [hw0]; exact bnew (Below.refl _ W)
  clear hw0
  obtain ⟨q4, f4, l4⟩ := x4.all
  go_wp2_with fail
  refine (HC.out _ (HS.out.keep B)).mono ?_
  rintro e w1 ⟨rfl, hb⟩
  replace x4 := x4.keep hb
  replace B := bcall B hb
  clear hb q4 f4 l4
  obtain ⟨q4, f4, l4⟩ := x4.all
  go_wp2_with fail
  refine bodyPost_ret (v := .tuple #[.agg #[.int .i64 0, .float .f32 0, .float .f32 0, .float .f32 0, .float .f32 0, .float .f32 0, .slice none 0 0, .bool false], .int .i64 er]) (by simp [results, Try.results11, go_sem, q4]) rfl ⟨rfl, bput (by omega) (bput (by omega) (bput (by omega) (bput (by omega) (bput (by omega) (bput (by omega) (bput (by omega) (bput (by omega) (B))))))))⟩

set_option maxRecDepth 100000 in
set_option maxHeartbeats 64000000 in
theorem key_Between_ok (v : Value) (ks : List Kf) (f : Int) (W : World) (hs : SlK W v ks) (hok : kfsErr ks = 0) :
    Calls Try.prog 11 #[v, .int .i64 f] W fun e w' => ∃ i, IsIdx ks f i ∧ ∃ pa pc, e = .returned (.tuple #[(winOf ks f i).val pa pc, .int .i64 0]) ∧ SlP w' (.slice pa (winOf ks f i).ps.length pc) (winOf ks f i).ps ∧ Below W.heap.size W w' := by
  have HC : Hid (∀ w, SlK w v ks → Calls Try.prog 12 #[v] w fun e w' => e = .returned (.int .i64 0) ∧ Below w.heap.size w w') := Lib.hid fun w h => by rw [← hok]; exact key_CheckFrames v ks w h
  have HS := Lib.hid hs
  obtain ⟨hn0, hn1, hall⟩ := kfs_ok hok
  obtain ⟨a, c, rfl, -, hform, hpts⟩ := hs
  obtain ⟨n, hn⟩ : ∃ n, n = ks.length := ⟨_, rfl⟩
  rw [← hn] at HC HS hn0 hn1 hall hpts ⊢
  have Hn := Lib.hid hn
  have Hok := Lib.hid hall
  have Hpts := Lib.hid hpts
  rcases hform with h0 | ⟨b, o, rfl, hbl, hat⟩
  · exfalso; rw [hn, h0] at hn0; simp at hn0
  rw [← hn] at hat
  have Hat := Lib.hid hat
  clear hat hpts hall hn hok
  go_enter Try.func11, Try.ntmps11
  go_upto_region 1 with fail
  refine name_world ?_
  intro w0 hw0
  have x4 : Bx w0 W.heap.size 25 #[.int .i64 0, .float .f32 0, .float .f32 0, .float .f32 0, .float .f32 0, .float .f32 0, .slice none 0 0, .bool false] := by rw [hw0]; exact Bx.new _ _ _
  have B : Below W.heap.size W w0 := by rw [hw0]; exact bnew (Below.refl _ W)
  clear hw0
  go_wp2_with fail
  refine (HC.out _ (HS.out.keep B)).mono ?_
  rintro e w1 ⟨rfl, hb⟩
  replace x4 := x4.keep hb
  replace B := bcall B hb
  clear hb HC HS
  go_wp2_with fail
  go_loopw [7] (fun i wr => ∃ k : Nat, k ≤ n ∧ i = .int .i64 (k : Int) ∧ Hid (∀ j, j < k → (ks.getD j default).fr ≤ f) ∧ Bx wr W.heap.size 25 #[.int .i64 0, .float .f32 0, .float .f32 0, .float .f32 0, .float .f32 0, .float .f32 0, .slice none 0 0, .bool false] ∧ Below W.heap.size W wr) (fun i _ => n - (intOf i).toNat)
  case atStart => exact ⟨0, by omega, rfl, Lib.hid fun j hj => by omega, x4, B⟩
  case round =>
    clear x4 B
    obtain ⟨k, hk, rfl, hz, x4, B⟩ := hrel
    by_cases hlt : k < n
    · have hki : (k : Int) < (n : Int) := by omega
      by_cases hfr : (ks.getD k default).fr ≤ f
      · have c0 := ((Hat.out k hlt).keep B hbl).1
        have hz2 : Hid (∀ j, j < k + 1 → (ks.getD j default).fr ≤ f) := Lib.hid fun j hj => by
          rcases Nat.lt_or_eq_of_le (Nat.le_of_lt_succ hj) with h | rfl
          · exact hz.out j h
          · exact hfr
        generalize (ks.getD k default).fr = fr at c0 hfr
        go_wp2_with fail
        go_roundw
        case rel => exact ⟨k + 1, by omega, by go_num, hz2, x4, B⟩
        case measure => simp [intOf]; omega
      · have Hidx : Hid (IsIdx ks f k) := Lib.hid ⟨by rw [← Hn.out]; exact hk, hz.out, fun _ => by omega⟩
        have hffr : f < (ks.getD k default).fr := by omega
        clear hz hfr
        by_cases hk0 : k = 0
        · have Hwin : Hid (winOf ks f k = (ks.getD 0 default).wi) := Lib.hid (by unfold winOf; rw [if_pos hk0])
          subst hk0
          obtain ⟨a0, a1, a2, a3, a4, a5, a6, a7, a8, a9⟩ := (Hat.out (0) (by omega)).keep B hbl
          obtain ⟨ab0, ab1, ae0, ae1, aw, ao, ak, au, al⟩ := Hok.out (0) (by omega)
          have asp := Hpts.out (0) (by omega)
          unfold Kf.pv at a8 asp
          unfold Kf.win at aw
          rw [show o + 0 * 10 = o by omega] at a0 a1 a2 a3 a4 a5 a6 a7 a8 a9
          have al2 := (win_smb aw).2.2.2.2.2.1
          clear aw al ao ak au ab0 ab1 ae0 ae1
          unfold Kf.wi at Hwin
          generalize (ks.getD 0 default).fr = afr at *
          generalize (ks.getD 0 default).ease = aease at *
          generalize (ks.getD 0 default).kind = akind at *
          generalize (ks.getD 0 default).X = aX at *
          generalize (ks.getD 0 default).Y = aY at *
          generalize (ks.getD 0 default).Wd = aWd at *
          generalize (ks.getD 0 default).H = aH at *
          generalize (ks.getD 0 default).S = aS at *
          generalize (ks.getD 0 default).pa = apa at *
          generalize (ks.getD 0 default).pc = apc at *
          generalize (ks.getD 0 default).ps = aps at *
          generalize (ks.getD 0 default).out = aout at *
          obtain ⟨apn, hapn⟩ : ∃ z, z = aps.length := ⟨_, rfl⟩
          rw [← hapn] at a8 asp
          have Hasp := Lib.hid asp
          have Hapn := Lib.hid hapn
          clear asp hapn
          obtain ⟨q4, f4, l4⟩ := x4.all
          go_wp2_with fail
          refine (key_cloned akind aX aY aWd aH aS (.slice apa apn apc) aps aout _ (by omega) (Hasp.out.keep B)).mono ?_
          rintro e w5 ⟨v', rfl, hcp, hb⟩
          have hszB := B.size
          have l4B := x4.lt
          replace x4 := x4.keep hb
          replace B := bcall B hb
          replace hcp := hcp.mono (show W.heap.size + 1 ≤ _ by omega)
          obtain ⟨va, vc, rfl⟩ := hcp.sl
          have HCP := Lib.hid hcp
          clear hb q4 f4 l4 hcp
          obtain ⟨q4, f4, l4⟩ := x4.all
          go_wp2_with fail
          refine bodyPost_ret (v := .tuple #[.agg #[.int .i64 akind, .float .f32 aX, .float .f32 aY, .float .f32 aWd, .float .f32 aH, .float .f32 aS, .slice va aps.length vc, .bool aout], .int .i64 0]) (by simp [results, Try.results11, go_sem, q4]) rfl ⟨_, Hidx.out, va, vc, by rw [Hwin.out]; rfl, ?_, bput (by omega) (bput (by omega) (bput (by omega) (bput (by omega) (bput (by omega) (bput (by omega) (bput (by omega) (bput (by omega) (B))))))))⟩
          have h := HCP.out
          have c1 : W.heap.size < W.heap.size + 1 := by omega
          rw [Hwin.out]
          exact ((((((((h.put c1).put c1).put c1).put c1).put c1).put c1).put c1).put c1).slP (by show aps.length ≤ _; unfold maxLen; omega)
        · obtain ⟨j, hj⟩ : ∃ j, k = j + 1 := ⟨k - 1, by omega⟩
          have hjk : (k : Int) - 1 = (j : Int) := by omega
          have hjn : (j : Int) < (n : Int) := by omega
          have hkj0 : ((k : Int) == 0) = false := beq_eq_false_iff_ne.2 (by omega)
          have hkn : ((k : Int) == (n : Int)) = false := beq_eq_false_iff_ne.2 (by omega)
          have hkn2 : (k == n) = false := beq_eq_false_iff_ne.2 (by omega)
          have Hj := Lib.hid hj
          clear hj
          by_cases hfe : (ks.getD j default).fr = f
          · have Hwin : Hid (winOf ks f k = (ks.getD j default).wi) := Lib.hid (by rw [winOf_one hk0 (.inr (by rw [show k - 1 = j by have := Hj.out; omega]; exact hfe)), show k - 1 = j by have := Hj.out; omega])
            have c0 := ((Hat.out k hlt).keep B hbl).1
            generalize (ks.getD k default).fr = kfr at c0 hffr
            obtain ⟨a0, a1, a2, a3, a4, a5, a6, a7, a8, a9⟩ := (Hat.out (j) (by omega)).keep B hbl
            obtain ⟨ab0, ab1, ae0, ae1, aw, ao, ak, au, al⟩ := Hok.out (j) (by omega)
            have asp := Hpts.out (j) (by omega)
            unfold Kf.pv at a8 asp
            unfold Kf.win at aw
            have al2 := (win_smb aw).2.2.2.2.2.1
            clear aw al ao ak au ab0 ab1 ae0 ae1
            unfold Kf.wi at Hwin
            generalize (ks.getD j default).fr = afr at *
            generalize (ks.getD j default).ease = aease at *
            generalize (ks.getD j default).kind = akind at *
            generalize (ks.getD j default).X = aX at *
            generalize (ks.getD j default).Y = aY at *
            generalize (ks.getD j default).Wd = aWd at *
            generalize (ks.getD j default).H = aH at *
            generalize (ks.getD j default).S = aS at *
            generalize (ks.getD j default).pa = apa at *
            generalize (ks.getD j default).pc = apc at *
            generalize (ks.getD j default).ps = aps at *
            generalize (ks.getD j default).out = aout at *
            obtain ⟨apn, hapn⟩ : ∃ z, z = aps.length := ⟨_, rfl⟩
            rw [← hapn] at a8 asp
            have Hasp := Lib.hid asp
            have Hapn := Lib.hid hapn
            clear asp hapn
            subst hfe
            go_upto_region 10 with fail
            refine name_world ?_
            intro w2 hw2
            have x8 : Bx w2 wr.heap.size 44 #[.int .i64 afr, .int .i64 aease, .int .i64 akind, .float .f32 aX, .float .f32 aY, .float .f32 aWd, .float .f32 aH, .float .f32 aS, .slice apa apn apc, .bool aout] := by rw [hw2]; exact Bx.new _ _ _
            have hb2 := below_eqK hw2
            replace x4 := x4.keep hb2
            replace B := bcall B hb2
            clear hw2 hb2 a0 a1 a2 a3 a4 a5 a6 a7 a8 a9
            obtain ⟨q4, f4, l4⟩ := x4.all
            obtain ⟨q8, f8, l8⟩ := x8.all
            go_wp2_with fail
            refine (key_cloned akind aX aY aWd aH aS (.slice apa apn apc) aps aout _ (by omega) (Hasp.out.keep B)).mono ?_
            rintro e w5 ⟨v', rfl, hcp, hb⟩
            have hszB := B.size
            have l4B := x4.lt
            replace x4 := x4.keep hb
            replace B := bcall B hb
            replace hcp := hcp.mono (show W.heap.size + 1 ≤ _ by omega)
            obtain ⟨va, vc, rfl⟩ := hcp.sl
            have HCP := Lib.hid hcp
            clear hb q4 f4 l4 hcp
            obtain ⟨q4, f4, l4⟩ := x4.all
            go_wp2_with fail
            refine bodyPost_ret (v := .tuple #[.agg #[.int .i64 akind, .float .f32 aX, .float .f32 aY, .float .f32 aWd, .float .f32 aH, .float .f32 aS, .slice va aps.length vc, .bool aout], .int .i64 0]) (by simp [results, Try.results11, go_sem, q4]) rfl ⟨_, Hidx.out, va, vc, by rw [Hwin.out]; rfl, ?_, bput (by omega) (bput (by omega) (bput (by omega) (bput (by omega) (bput (by omega) (bput (by omega) (bput (by omega) (bput (by omega) (B))))))))⟩
            have h := HCP.out
            have c1 : W.heap.size < W.heap.size + 1 := by omega
            rw [Hwin.out]
            exact ((((((((h.put c1).put c1).put c1).put c1).put c1).put c1).put c1).put c1).slP (by show aps.length ≤ _; unfold maxLen; omega)
          · have hlj : (ks.getD j default).fr < f := by have := Hidx.out.2.1 j (by have := Hj.out; omega); omega
            have Hwin : Hid (winOf ks f k = mixW (ks.getD j default) (ks.getD k default) (shareT (ks.getD j default).ease (ks.getD j default).fr (ks.getD k default).fr f)) := Lib.hid (by rw [winOf_mix hk0 (by have := Hn.out; omega) (by rw [show k - 1 = j by have := Hj.out; omega]; exact hfe), show k - 1 = j by have := Hj.out; omega])
            obtain ⟨a0, a1, a2, a3, a4, a5, a6, a7, a8, a9⟩ := (Hat.out (j) (by omega)).keep B hbl
            obtain ⟨ab0, ab1, ae0, ae1, aw, ao, ak, au, al⟩ := Hok.out (j) (by omega)
            have asp := Hpts.out (j) (by omega)
            unfold Kf.pv at a8 asp
            unfold Kf.win at aw
            have al2 := (win_smb aw).2.2.2.2.2.1
            obtain ⟨b0, b1, b2, b3, b4, b5, b6, b7, b8, b9⟩ := (Hat.out (k) (by omega)).keep B hbl
            obtain ⟨bb0, bb1, be0, be1, bw, bo, bk, bu, bl⟩ := Hok.out (k) (by omega)
            have bsp := Hpts.out (k) (by omega)
            unfold Kf.pv at b8 bsp
            unfold Kf.win at bw
            have bl2 := (win_smb bw).2.2.2.2.2.1
            have hpl : (ks.getD k default).ps.length = (ks.getD j default).ps.length := by rw [bl, al]
            clear al ao ak au bl bo bk bu
            have hw1 := win_smb aw
            have hw2 := win_smb bw
            unfold Kf.wi mixW at Hwin
            have ht := share_num (ease := (ks.getD j default).ease) ab0 hlj hffr bb1
            have hqn := quo_nn' ab0 hlj hffr bb1
            clear aw bw
            generalize (ks.getD j default).fr = afr at *
            generalize (ks.getD j default).ease = aease at *
            generalize (ks.getD j default).kind = akind at *
            generalize (ks.getD j default).X = aX at *
            generalize (ks.getD j default).Y = aY at *
            generalize (ks.getD j default).Wd = aWd at *
            generalize (ks.getD j default).H = aH at *
            generalize (ks.getD j default).S = aS at *
            generalize (ks.getD j default).pa = apa at *
            generalize (ks.getD j default).pc = apc at *
            generalize (ks.getD j default).ps = aps at *
            generalize (ks.getD j default).out = aout at *
            generalize (ks.getD k default).fr = bfr at *
            generalize (ks.getD k default).ease = bease at *
            generalize (ks.getD k default).kind = bkind at *
            generalize (ks.getD k default).X = bX at *
            generalize (ks.getD k default).Y = bY at *
            generalize (ks.getD k default).Wd = bWd at *
            generalize (ks.getD k default).H = bH at *
            generalize (ks.getD k default).S = bS at *
            generalize (ks.getD k default).pa = bpa at *
            generalize (ks.getD k default).pc = bpc at *
            generalize (ks.getD k default).ps = bps at *
            generalize (ks.getD k default).out = bout at *
            obtain ⟨apn, hapn⟩ : ∃ z, z = aps.length := ⟨_, rfl⟩
            rw [← hapn] at a8 asp
            have Hasp := Lib.hid asp
            have Hapn := Lib.hid hapn
            clear asp hapn
            rw [hpl, ← Hapn.out] at b8 bsp
            have Hbsp := Lib.hid bsp
            clear bsp
            have hw1' := Lib.hid hw1
            have hw2' := Lib.hid hw2
            obtain ⟨mX1, mY1, mW1, mH1, mS1, -, mP1⟩ := hw1
            obtain ⟨mX2, mY2, mW2, mH2, mS2, -, mP2⟩ := hw2
            have MX := Lib.hid (And.intro mX1 mX2)
            have MY := Lib.hid (And.intro mY1 mY2)
            have MW := Lib.hid (And.intro mW1 mW2)
            have MH := Lib.hid (And.intro mH1 mH2)
            have MS := Lib.hid (And.intro mS1 mS2)
            have MP1 := Lib.hid mP1
            have MP2 := Lib.hid mP2
            have HPL := Lib.hid hpl
            clear mX1 mY1 mW1 mH1 mS1 mP1 mX2 mY2 mW2 mH2 mS2 mP2 hw1' hw2' hpl bl2
            have hap32 : apn ≤ 32 := by have := Hapn.out; omega
            have haps32 : aps.length ≤ 32 := al2
            clear al2
            go_upto_region 10 with fail
            refine name_world ?_
            intro w2 hw2
            have x8 : Bx w2 wr.heap.size 44 #[.int .i64 afr, .int .i64 aease, .int .i64 akind, .float .f32 aX, .float .f32 aY, .float .f32 aWd, .float .f32 aH, .float .f32 aS, .slice apa apn apc, .bool aout] := by rw [hw2]; exact Bx.new _ _ _
            have hb2 := below_eqK hw2
            have lBz := B.size
            have zs : ∀ i u, wr.cell? ⟨b, i, none⟩ = some u → w2.cell? ⟨b, i, none⟩ = some u := fun i u h => (hb2.cell (p := ⟨b, i, none⟩) (by show b < wr.heap.size; omega)).trans h
            replace b0 := zs _ _ b0
            replace b1 := zs _ _ b1
            replace b2 := zs _ _ b2
            replace b3 := zs _ _ b3
            replace b4 := zs _ _ b4
            replace b5 := zs _ _ b5
            replace b6 := zs _ _ b6
            replace b7 := zs _ _ b7
            replace b8 := zs _ _ b8
            replace b9 := zs _ _ b9
            replace x4 := x4.keep hb2
            replace B := bcall B hb2
            clear hw2 hb2 a0 a1 a2 a3 a4 a5 a6 a7 a8 a9 zs lBz
            have hfe2 : (afr == f) = false := beq_eq_false_iff_ne.2 hfe
            obtain ⟨q8, f8, l8⟩ := x8.all
            go_upto_region 13 with fail
            refine name_world ?_
            intro w3 hw3
            have x9 : Bx w3 w2.heap.size 44 #[.int .i64 bfr, .int .i64 bease, .int .i64 bkind, .float .f32 bX, .float .f32 bY, .float .f32 bWd, .float .f32 bH, .float .f32 bS, .slice bpa apn bpc, .bool bout] := by rw [hw3]; exact Bx.new _ _ _
            have hb3 := below_eqK hw3
            replace x4 := x4.keep hb3
            replace x8 := x8.keep hb3
            replace B := bcall B hb3
            clear hw3 hb3 b0 b1 b2 b3 b4 b5 b6 b7 b8 b9 q8 f8 l8 hki hkn hkn2 hfe hfe2
            obtain ⟨q8, f8, l8⟩ := x8.all
            obtain ⟨q9, f9, l9⟩ := x9.all
            obtain ⟨fq, fz⟩ := fres_is hqn
            have hft : ∀ (w : World), True := fun _ => trivial
            obtain ⟨T, hT⟩ : ∃ T, T = shareT aease afr bfr f := ⟨_, rfl⟩
            rw [← hT] at Hwin ht
            have HT := Lib.hid ht
            clear ht hft
            by_cases he3 : aease = 3
            · have hT3 : T = smB (fop .quo (floatOfInt .f32 (f - afr)) (floatOfInt .f32 (bfr - afr))) := by rw [hT, shareT, if_pos he3]
              have ee3 : (aease == 3) = true := by rw [he3]; rfl
              have SM := Lib.hid (fun w => num_Smooth _ w hqn)
              generalize fop .quo (floatOfInt .f32 (f - afr)) (floatOfInt .f32 (bfr - afr)) = t0 at *
              clear hT hqn
              go_wp2_with fail
              refine (SM.out _).mono ?_
              rw [← hT3]
              rintro e w4 ⟨rfl, rfl⟩
              clear hT3 SM fq fz ee3 he3
              go_upto_region 19 with fail
              refine name_world ?_
              intro w5 hw5
              have hb5 : Below w3.heap.size w3 w5 := by first | exact b_eqd2 hw5 (Below.refl _ _) | (rw [hw5]; exact Below.refl _ _)
              replace x4 := x4.keep hb5
              replace x8 := x8.keep hb5
              replace x9 := x9.keep hb5
              replace B := bcall B hb5
              clear hb5 hw5 q8 f8 l8 q9 f9 l9
              obtain ⟨q8, f8, l8⟩ := x8.all
              go_wp2_with fail
              refine (key_cloned akind aX aY aWd aH aS (.slice apa apn apc) aps aout _ (by omega) (Hasp.out.keep B)).mono ?_
              rintro e w6 ⟨v', rfl, hcp, hb⟩
              have hbk := Lib.hid hb
              rcases hcp with ⟨haps, va, vc, rfl⟩ | ⟨hne, g, vc, cs, rfl, hBg, xg, hvc, hH0⟩
              · subst haps
                obtain rfl : apn = 0 := Hapn.out
                have lx9 := x9.lt
                have lx4 := x4.lt
                have hsz6 := hb.size
                replace x4 := x4.keep hb
                replace B := bcall B hb
                clear hb x8 q8 f8 l8
                replace x9 := x9.keep hbk.out
                obtain ⟨q9, f9, l9⟩ := x9.all
                go_upto_region 20 with fail
                refine name_world ?_
                intro w7 hw7
                have x11 : Bx w7 w6.heap.size 25 #[.int .i64 akind, .float .f32 aX, .float .f32 aY, .float .f32 aWd, .float .f32 aH, .float .f32 aS, .slice va 0 vc, .bool aout] := by rw [hw7]; exact Bx.new _ _ _
                have hb7 := below_eqK hw7
                replace x4 := x4.keep hb7
                replace x9 := x9.keep hb7


                have hp11 : W.heap.size < w6.heap.size := by omega
                replace B := bcall B hb7
                clear hb7 hw7 q9 f9 l9 hbk
                generalize w6.heap.size = p11 at *
                obtain ⟨q9, f9, l9⟩ := x9.all
                go_upto_region 21 with fail
                refine name_world ?_
                intro wa hwa
                have x12 : Bx wa w7.heap.size 25 #[.int .i64 bkind, .float .f32 bX, .float .f32 bY, .float .f32 bWd, .float .f32 bH, .float .f32 bS, .slice bpa 0 bpc, .bool bout] := by rw [hwa]; exact Bx.new _ _ _
                have hb8 := below_eqK hwa
                have hp12 : p11 < w7.heap.size := x11.lt
                replace x4 := x4.keep hb8
                replace x11 := x11.keep hb8

                replace B := bcall B hb8
                clear hb8 hwa q9 f9 l9 x9
                generalize w7.heap.size = p12 at *
                refine wp_region_grd 13 (fun _ => false) (fun q u w' => u = [.pointer (some ⟨p11, 1, none⟩), .float .f32 aX, .pointer (some ⟨p12, 1, none⟩), .float .f32 bX, .float .f32 T, .float .f32 (lerpV aX bX T), .pointer (some ⟨p11, 2, none⟩), .float .f32 aY, .pointer (some ⟨p12, 2, none⟩), .float .f32 bY, .float .f32 T, .float .f32 (lerpV aY bY T), .pointer (some ⟨p11, 1, none⟩)].getD q undef) (fun _ => false) (fun w' => Below wa.heap.size wa w') (by kernel_rfl) (by kernel_rfl) (fun _ _ _ _ _ h => h)
                  (fun _ _ h e => e.trans (h.mono e.size)) (fun t u a' b' hb h => ?_) (Below.refl _ _).drew ?_ ?_ ?_
                · exact h
                · intro t op ht hlt hop
                  clear hlt
                  rcases (by omega : t = 0 ∨ t = 1 ∨ t = 2 ∨ t = 3 ∨ t = 4 ∨ t = 5 ∨ t = 6 ∨ t = 7 ∨ t = 8 ∨ t = 9 ∨ t = 10 ∨ t = 11 ∨ t = 12) with rfl | rfl | rfl | rfl | rfl | rfl | rfl | rfl | rfl | rfl | rfl | rfl | rfl
                  all_goals simp only [List.getElem?_cons_zero, List.getElem?_cons_succ, Option.some.injEq] at hop
                  all_goals subst hop
                  all_goals intro a wx hE hag hdep
                  · refine grd_none rfl ?_
                    have e0 := slot_eq (hag 11 rfl)
                    exact rel_pure _ rfl rfl (by simp [go_sem, e0])
                  · refine grd_none rfl ?_
                    have e0 := slot_eq (hdep ⟨0, .data⟩ (by simp) rfl)
                    have hq := (x11.keep hE).all.1
                    exact rel_pure _ rfl rfl (by simp [go_sem, e0, hq])
                  · refine grd_none rfl ?_
                    have e0 := slot_eq (hag 12 rfl)
                    exact rel_pure _ rfl rfl (by simp [go_sem, e0])
                  · refine grd_none rfl ?_
                    have e0 := slot_eq (hdep ⟨2, .data⟩ (by simp) rfl)
                    have hq := (x12.keep hE).all.1
                    exact rel_pure _ rfl rfl (by simp [go_sem, e0, hq])
                  · refine grd_none rfl ?_
                    have e0 := slot_eq (hag 10 rfl)
                    exact rel_pure _ rfl rfl (by simp [go_sem, e0])
                  · refine grd_none rfl ?_
                    have e0 := slot_eq (hdep ⟨1, .data⟩ (by simp) rfl)
                    have e1 := slot_eq (hdep ⟨3, .data⟩ (by simp) rfl)
                    have e2 := slot_eq (hdep ⟨4, .data⟩ (by simp) rfl)
                    refine rel_call (f := 35) (args := #[.float .f32 aX, .float .f32 bX, .float .f32 T]) (run_go_call Try.func35 (by kernel_rfl) (by kernel_rfl) _ _ _ _ _ _ _ _ _ _ (by simp [Act.eval, e0, e1, e2])) rfl ?_
                    refine (num_LerpP MX.out.1 MX.out.2 HT.out wx).mono ?_
                    rintro e w' ⟨rfl, rfl⟩
                    exact ⟨_, rfl, rfl, Below.refl _ _⟩
                  · refine grd_none rfl ?_
                    have e0 := slot_eq (hag 11 rfl)
                    exact rel_pure _ rfl rfl (by simp [go_sem, e0])
                  · refine grd_none rfl ?_
                    have e0 := slot_eq (hdep ⟨6, .data⟩ (by simp) rfl)
                    have hq := (x11.keep hE).all.1
                    exact rel_pure _ rfl rfl (by simp [go_sem, e0, hq])
                  · refine grd_none rfl ?_
                    have e0 := slot_eq (hag 12 rfl)
                    exact rel_pure _ rfl rfl (by simp [go_sem, e0])
                  · refine grd_none rfl ?_
                    have e0 := slot_eq (hdep ⟨8, .data⟩ (by simp) rfl)
                    have hq := (x12.keep hE).all.1
                    exact rel_pure _ rfl rfl (by simp [go_sem, e0, hq])
                  · refine grd_none rfl ?_
                    have e0 := slot_eq (hag 10 rfl)
                    exact rel_pure _ rfl rfl (by simp [go_sem, e0])
                  · refine grd_none rfl ?_
                    have e0 := slot_eq (hdep ⟨7, .data⟩ (by simp) rfl)
                    have e1 := slot_eq (hdep ⟨9, .data⟩ (by simp) rfl)
                    have e2 := slot_eq (hdep ⟨10, .data⟩ (by simp) rfl)
                    refine rel_call (f := 35) (args := #[.float .f32 aY, .float .f32 bY, .float .f32 T]) (run_go_call Try.func35 (by kernel_rfl) (by kernel_rfl) _ _ _ _ _ _ _ _ _ _ (by simp [Act.eval, e0, e1, e2])) rfl ?_
                    refine (num_LerpP MY.out.1 MY.out.2 HT.out wx).mono ?_
                    rintro e w' ⟨rfl, rfl⟩
                    exact ⟨_, rfl, rfl, Below.refl _ _⟩
                  · refine grd_none rfl ?_
                    have e0 := slot_eq (hag 11 rfl)
                    exact rel_pure _ rfl rfl (by simp [go_sem, e0])
                · intro t op ht hlt; cases hlt
                intro vs wy hE hvs _
                have k5 : vs 5 = .float .f32 (lerpV aX bX T) := hvs 5 (by omega)
                have k11 : vs 11 = .float .f32 (lerpV aY bY T) := hvs 11 (by omega)
                have k12 : vs 12 = .pointer (some ⟨p11, 1, none⟩) := hvs 12 (by omega)
                simp only [List.drop_succ_cons, List.drop_zero, putAll, dstAt, List.getElem?_toArray, List.getElem?_cons_zero, List.getElem?_cons_succ, Option.bind_some, Act.put, List.setIfInBounds_toArray, List.set_cons_zero, List.set_cons_succ, k5, k11, k12]
                clear hvs k5 k11 k12
                replace x4 := x4.keep hE
                replace x11 := x11.keep hE
                replace x12 := x12.keep hE
                have hszB := B.size
                replace B := B.trans (hE.mono hszB)
                clear hE hszB
                obtain ⟨q11, f11, l11⟩ := x11.all
                go_upto_region 22 with fail
                refine name_world ?_
                intro wb hwb
                have y11 : Bx wb p11 25 #[.int .i64 akind, .float .f32 (lerpV aX bX T), .float .f32 (lerpV aY bY T), .float .f32 aWd, .float .f32 aH, .float .f32 aS, .slice va 0 vc, .bool aout] := by rw [hwb]; exact (x11.set 1 _).set 2 _
                replace x4 : Bx wb W.heap.size 25 #[.int .i64 0, .float .f32 0, .float .f32 0, .float .f32 0, .float .f32 0, .float .f32 0, .slice none 0 0, .bool false] := by rw [hwb]; exact (Bx.other (Bx.other x4 _ _ (by first | omega | (simp; done) | (simp; omega))) _ _ (by first | omega | (simp; done) | (simp; omega)))
                replace x12 : Bx wb p12 25 #[.int .i64 bkind, .float .f32 bX, .float .f32 bY, .float .f32 bWd, .float .f32 bH, .float .f32 bS, .slice bpa 0 bpc, .bool bout] := by rw [hwb]; exact (Bx.other (Bx.other x12 _ _ (by first | omega | (simp; done) | (simp; omega))) _ _ (by first | omega | (simp; done) | (simp; omega)))

                replace B : Below W.heap.size W wb := by rw [hwb]; exact bput (by omega) (bput (by omega) B)
                clear hwb q11 f11 l11 x11
                have x11 := y11
                clear y11
                refine wp_region_grd 13 (fun _ => false) (fun q u w' => u = [.pointer (some ⟨p11, 3, none⟩), .float .f32 aWd, .pointer (some ⟨p12, 3, none⟩), .float .f32 bWd, .float .f32 T, .float .f32 (lerpV aWd bWd T), .pointer (some ⟨p11, 4, none⟩), .float .f32 aH, .pointer (some ⟨p12, 4, none⟩), .float .f32 bH, .float .f32 T, .float .f32 (lerpV aH bH T), .pointer (some ⟨p11, 3, none⟩)].getD q undef) (fun _ => false) (fun w' => Below wb.heap.size wb w') (by kernel_rfl) (by kernel_rfl) (fun _ _ _ _ _ h => h)
                  (fun _ _ h e => e.trans (h.mono e.size)) (fun t u a' b' hb h => ?_) (Below.refl _ _).drew ?_ ?_ ?_
                · exact h
                · intro t op ht hlt hop
                  clear hlt
                  rcases (by omega : t = 0 ∨ t = 1 ∨ t = 2 ∨ t = 3 ∨ t = 4 ∨ t = 5 ∨ t = 6 ∨ t = 7 ∨ t = 8 ∨ t = 9 ∨ t = 10 ∨ t = 11 ∨ t = 12) with rfl | rfl | rfl | rfl | rfl | rfl | rfl | rfl | rfl | rfl | rfl | rfl | rfl
                  all_goals simp only [List.getElem?_cons_zero, List.getElem?_cons_succ, Option.some.injEq] at hop
                  all_goals subst hop
                  all_goals intro a wx hE hag hdep
                  · refine grd_none rfl ?_
                    have e0 := slot_eq (hag 11 rfl)
                    exact rel_pure _ rfl rfl (by simp [go_sem, e0])
                  · refine grd_none rfl ?_
                    have e0 := slot_eq (hdep ⟨0, .data⟩ (by simp) rfl)
                    have hq := (x11.keep hE).all.1
                    exact rel_pure _ rfl rfl (by simp [go_sem, e0, hq])
                  · refine grd_none rfl ?_
                    have e0 := slot_eq (hag 12 rfl)
                    exact rel_pure _ rfl rfl (by simp [go_sem, e0])
                  · refine grd_none rfl ?_
                    have e0 := slot_eq (hdep ⟨2, .data⟩ (by simp) rfl)
                    have hq := (x12.keep hE).all.1
                    exact rel_pure _ rfl rfl (by simp [go_sem, e0, hq])
                  · refine grd_none rfl ?_
                    have e0 := slot_eq (hag 10 rfl)
                    exact rel_pure _ rfl rfl (by simp [go_sem, e0])
                  · refine grd_none rfl ?_
                    have e0 := slot_eq (hdep ⟨1, .data⟩ (by simp) rfl)
                    have e1 := slot_eq (hdep ⟨3, .data⟩ (by simp) rfl)
                    have e2 := slot_eq (hdep ⟨4, .data⟩ (by simp) rfl)
                    refine rel_call (f := 35) (args := #[.float .f32 aWd, .float .f32 bWd, .float .f32 T]) (run_go_call Try.func35 (by kernel_rfl) (by kernel_rfl) _ _ _ _ _ _ _ _ _ _ (by simp [Act.eval, e0, e1, e2])) rfl ?_
                    refine (num_LerpP MW.out.1 MW.out.2 HT.out wx).mono ?_
                    rintro e w' ⟨rfl, rfl⟩
                    exact ⟨_, rfl, rfl, Below.refl _ _⟩
                  · refine grd_none rfl ?_
                    have e0 := slot_eq (hag 11 rfl)
                    exact rel_pure _ rfl rfl (by simp [go_sem, e0])
                  · refine grd_none rfl ?_
                    have e0 := slot_eq (hdep ⟨6, .data⟩ (by simp) rfl)
                    have hq := (x11.keep hE).all.1
                    exact rel_pure _ rfl rfl (by simp [go_sem, e0, hq])
                  · refine grd_none rfl ?_
                    have e0 := slot_eq (hag 12 rfl)
                    exact rel_pure _ rfl rfl (by simp [go_sem, e0])
                  · refine grd_none rfl ?_
                    have e0 := slot_eq (hdep ⟨8, .data⟩ (by simp) rfl)
                    have hq := (x12.keep hE).all.1
                    exact rel_pure _ rfl rfl (by simp [go_sem, e0, hq])
                  · refine grd_none rfl ?_
                    have e0 := slot_eq (hag 10 rfl)
                    exact rel_pure _ rfl rfl (by simp [go_sem, e0])
                  · refine grd_none rfl ?_
                    have e0 := slot_eq (hdep ⟨7, .data⟩ (by simp) rfl)
                    have e1 := slot_eq (hdep ⟨9, .data⟩ (by simp) rfl)
                    have e2 := slot_eq (hdep ⟨10, .data⟩ (by simp) rfl)
                    refine rel_call (f := 35) (args := #[.float .f32 aH, .float .f32 bH, .float .f32 T]) (run_go_call Try.func35 (by kernel_rfl) (by kernel_rfl) _ _ _ _ _ _ _ _ _ _ (by simp [Act.eval, e0, e1, e2])) rfl ?_
                    refine (num_LerpP MH.out.1 MH.out.2 HT.out wx).mono ?_
                    rintro e w' ⟨rfl, rfl⟩
                    exact ⟨_, rfl, rfl, Below.refl _ _⟩
                  · refine grd_none rfl ?_
                    have e0 := slot_eq (hag 11 rfl)
                    exact rel_pure _ rfl rfl (by simp [go_sem, e0])
                · intro t op ht hlt; cases hlt
                intro vs wy hE hvs _
                have k5 : vs 5 = .float .f32 (lerpV aWd bWd T) := hvs 5 (by omega)
                have k11 : vs 11 = .float .f32 (lerpV aH bH T) := hvs 11 (by omega)
                have k12 : vs 12 = .pointer (some ⟨p11, 3, none⟩) := hvs 12 (by omega)
                simp only [List.drop_succ_cons, List.drop_zero, putAll, dstAt, List.getElem?_toArray, List.getElem?_cons_zero, List.getElem?_cons_succ, Option.bind_some, Act.put, List.setIfInBounds_toArray, List.set_cons_zero, List.set_cons_succ, k5, k11, k12]
                clear hvs k5 k11 k12
                replace x4 := x4.keep hE
                replace x11 := x11.keep hE
                replace x12 := x12.keep hE
                have hszB := B.size
                replace B := B.trans (hE.mono hszB)
                clear hE hszB
                obtain ⟨q11, f11, l11⟩ := x11.all
                go_upto_region 23 with fail
                refine name_world ?_
                intro wc hwc
                have y11 : Bx wc p11 25 #[.int .i64 akind, .float .f32 (lerpV aX bX T), .float .f32 (lerpV aY bY T), .float .f32 (lerpV aWd bWd T), .float .f32 (lerpV aH bH T), .float .f32 aS, .slice va 0 vc, .bool aout] := by rw [hwc]; exact (x11.set 3 _).set 4 _
                replace x4 : Bx wc W.heap.size 25 #[.int .i64 0, .float .f32 0, .float .f32 0, .float .f32 0, .float .f32 0, .float .f32 0, .slice none 0 0, .bool false] := by rw [hwc]; exact (Bx.other (Bx.other x4 _ _ (by first | omega | (simp; done) | (simp; omega))) _ _ (by first | omega | (simp; done) | (simp; omega)))
                replace x12 : Bx wc p12 25 #[.int .i64 bkind, .float .f32 bX, .float .f32 bY, .float .f32 bWd, .float .f32 bH, .float .f32 bS, .slice bpa 0 bpc, .bool bout] := by rw [hwc]; exact (Bx.other (Bx.other x12 _ _ (by first | omega | (simp; done) | (simp; omega))) _ _ (by first | omega | (simp; done) | (simp; omega)))

                replace B : Below W.heap.size W wc := by rw [hwc]; exact bput (by omega) (bput (by omega) B)
                clear hwc q11 f11 l11 x11
                have x11 := y11
                clear y11
                obtain ⟨q11, f11, l11⟩ := x11.all
                obtain ⟨q12, f12, l12⟩ := x12.all
                go_wp2_with fail
                refine (num_LerpP MS.out.1 MS.out.2 HT.out _).mono ?_
                rintro e wd ⟨rfl, rfl⟩
                go_upto_region 24 with fail
                refine name_world ?_
                intro wd hwd
                have y11 : Bx wd p11 25 #[.int .i64 akind, .float .f32 (lerpV aX bX T), .float .f32 (lerpV aY bY T), .float .f32 (lerpV aWd bWd T), .float .f32 (lerpV aH bH T), .float .f32 (lerpV aS bS T), .slice va 0 vc, .bool aout] := by rw [hwd]; exact x11.set 5 _
                replace x4 : Bx wd W.heap.size 25 #[.int .i64 0, .float .f32 0, .float .f32 0, .float .f32 0, .float .f32 0, .float .f32 0, .slice none 0 0, .bool false] := by rw [hwd]; exact (Bx.other x4 _ _ (by first | omega | (simp; done) | (simp; omega)))
                replace x12 : Bx wd p12 25 #[.int .i64 bkind, .float .f32 bX, .float .f32 bY, .float .f32 bWd, .float .f32 bH, .float .f32 bS, .slice bpa 0 bpc, .bool bout] := by rw [hwd]; exact (Bx.other x12 _ _ (by first | omega | (simp; done) | (simp; omega)))

                replace B : Below W.heap.size W wd := by rw [hwd]; exact bput (by omega) B
                clear hwd q11 f11 l11 q12 f12 l12 x11
                obtain ⟨q11, f11, l11⟩ := y11.all
                go_wp2_with fail
                go_loopw [128] (fun i wr => i = .int .i64 0 ∧ Bx wr p11 25 #[.int .i64 akind, .float .f32 (lerpV aX bX T), .float .f32 (lerpV aY bY T), .float .f32 (lerpV aWd bWd T), .float .f32 (lerpV aH bH T), .float .f32 (lerpV aS bS T), .slice va 0 vc, .bool aout] ∧ Bx wr W.heap.size 25 #[.int .i64 0, .float .f32 0, .float .f32 0, .float .f32 0, .float .f32 0, .float .f32 0, .slice none 0 0, .bool false] ∧ Below W.heap.size W wr) (fun i _ => (intOf i).toNat)
                case atStart => exact ⟨rfl, y11, x4, B⟩
                case round =>
                  clear y11 x12 x4 B q11 f11 l11
                  obtain ⟨rfl, y11, x4, B⟩ := hrel
                  obtain ⟨q4, f4, l4⟩ := x4.all
                  obtain ⟨q11, f11, l11⟩ := y11.all
                  go_wp2_with fail
                  refine bodyPost_ret (v := .tuple #[.agg #[.int .i64 akind, .float .f32 (lerpV aX bX T), .float .f32 (lerpV aY bY T), .float .f32 (lerpV aWd bWd T), .float .f32 (lerpV aH bH T), .float .f32 (lerpV aS bS T), .slice va 0 vc, .bool aout], .int .i64 0]) (by simp [results, Try.results11, go_sem, q4]) rfl ⟨_, Hidx.out, va, vc, by rw [Hwin.out]; rfl, ?_, bput (by omega) (bput (by omega) (bput (by omega) (bput (by omega) (bput (by omega) (bput (by omega) (bput (by omega) (bput (by omega) (B))))))))⟩
                  rw [Hwin.out]
                  exact ⟨va, vc, rfl, by show (0 : Nat) ≤ _; omega, .inl rfl⟩
              · have hgl : g < w6.heap.size := xg.lt
                have hH := Lib.hid hH0
                clear hH0
                rw [← Hapn.out]
                obtain ⟨bb, bo, rfl, hbbl, hbp0⟩ : ∃ bb bo, bpa = some ⟨bb, bo, none⟩ ∧ bb < W.heap.size ∧ ∀ k, k < bps.length → PtAt W bb (bo + k * 2) (bps.getD k default) := by
                  obtain ⟨a1, c1, h1, _, h2⟩ := Hbsp.out
                  rcases h2 with h2 | ⟨bb, bo, h3, h4, h5⟩
                  · exfalso
                    have := HPL.out
                    rw [h2] at this
                    exact hne (List.eq_nil_of_length_eq_zero this.symm)
                  · injection h1 with h1
                    exact ⟨bb, bo, h1.trans h3, h4, h5⟩
                have hbp := Lib.hid hbp0
                clear hbp0
                have lx9 := x9.lt
                have lx4 := x4.lt
                have hsz6 := hb.size
                replace x4 := x4.keep hb
                replace B := bcall B hb
                clear hb x8 q8 f8 l8
                replace x9 := x9.keep hbk.out
                obtain ⟨q9, f9, l9⟩ := x9.all
                go_upto_region 20 with fail
                refine name_world ?_
                intro w7 hw7
                have x11 : Bx w7 w6.heap.size 25 #[.int .i64 akind, .float .f32 aX, .float .f32 aY, .float .f32 aWd, .float .f32 aH, .float .f32 aS, .slice (some ⟨g, 0, none⟩) apn vc, .bool aout] := by rw [hw7]; exact Bx.new _ _ _
                have hb7 := below_eqK hw7
                replace x4 := x4.keep hb7
                replace x9 := x9.keep hb7
                replace xg := xg.keep hb7
                have hgl : g < w6.heap.size := hgl
                have hp11 : W.heap.size < w6.heap.size := by omega
                replace B := bcall B hb7
                clear hb7 hw7 q9 f9 l9 hbk
                generalize w6.heap.size = p11 at *
                obtain ⟨q9, f9, l9⟩ := x9.all
                go_upto_region 21 with fail
                refine name_world ?_
                intro wa hwa
                have x12 : Bx wa w7.heap.size 25 #[.int .i64 bkind, .float .f32 bX, .float .f32 bY, .float .f32 bWd, .float .f32 bH, .float .f32 bS, .slice (some ⟨bb, bo, none⟩) apn bpc, .bool bout] := by rw [hwa]; exact Bx.new _ _ _
                have hb8 := below_eqK hwa
                have hp12 : p11 < w7.heap.size := x11.lt
                replace x4 := x4.keep hb8
                replace x11 := x11.keep hb8
                replace xg := xg.keep hb8
                replace B := bcall B hb8
                clear hb8 hwa q9 f9 l9 x9
                generalize w7.heap.size = p12 at *
                refine wp_region_grd 13 (fun _ => false) (fun q u w' => u = [.pointer (some ⟨p11, 1, none⟩), .float .f32 aX, .pointer (some ⟨p12, 1, none⟩), .float .f32 bX, .float .f32 T, .float .f32 (lerpV aX bX T), .pointer (some ⟨p11, 2, none⟩), .float .f32 aY, .pointer (some ⟨p12, 2, none⟩), .float .f32 bY, .float .f32 T, .float .f32 (lerpV aY bY T), .pointer (some ⟨p11, 1, none⟩)].getD q undef) (fun _ => false) (fun w' => Below wa.heap.size wa w') (by kernel_rfl) (by kernel_rfl) (fun _ _ _ _ _ h => h)
                  (fun _ _ h e => e.trans (h.mono e.size)) (fun t u a' b' hb h => ?_) (Below.refl _ _).drew ?_ ?_ ?_
                · exact h
                · intro t op ht hlt hop
                  clear hlt
                  rcases (by omega : t = 0 ∨ t = 1 ∨ t = 2 ∨ t = 3 ∨ t = 4 ∨ t = 5 ∨ t = 6 ∨ t = 7 ∨ t = 8 ∨ t = 9 ∨ t = 10 ∨ t = 11 ∨ t = 12) with rfl | rfl | rfl | rfl | rfl | rfl | rfl | rfl | rfl | rfl | rfl | rfl | rfl
                  all_goals simp only [List.getElem?_cons_zero, List.getElem?_cons_succ, Option.some.injEq] at hop
                  all_goals subst hop
                  all_goals intro a wx hE hag hdep
                  · refine grd_none rfl ?_
                    have e0 := slot_eq (hag 11 rfl)
                    exact rel_pure _ rfl rfl (by simp [go_sem, e0])
                  · refine grd_none rfl ?_
                    have e0 := slot_eq (hdep ⟨0, .data⟩ (by simp) rfl)
                    have hq := (x11.keep hE).all.1
                    exact rel_pure _ rfl rfl (by simp [go_sem, e0, hq])
                  · refine grd_none rfl ?_
                    have e0 := slot_eq (hag 12 rfl)
                    exact rel_pure _ rfl rfl (by simp [go_sem, e0])
                  · refine grd_none rfl ?_
                    have e0 := slot_eq (hdep ⟨2, .data⟩ (by simp) rfl)
                    have hq := (x12.keep hE).all.1
                    exact rel_pure _ rfl rfl (by simp [go_sem, e0, hq])
                  · refine grd_none rfl ?_
                    have e0 := slot_eq (hag 10 rfl)
                    exact rel_pure _ rfl rfl (by simp [go_sem, e0])
                  · refine grd_none rfl ?_
                    have e0 := slot_eq (hdep ⟨1, .data⟩ (by simp) rfl)
                    have e1 := slot_eq (hdep ⟨3, .data⟩ (by simp) rfl)
                    have e2 := slot_eq (hdep ⟨4, .data⟩ (by simp) rfl)
                    refine rel_call (f := 35) (args := #[.float .f32 aX, .float .f32 bX, .float .f32 T]) (run_go_call Try.func35 (by kernel_rfl) (by kernel_rfl) _ _ _ _ _ _ _ _ _ _ (by simp [Act.eval, e0, e1, e2])) rfl ?_
                    refine (num_LerpP MX.out.1 MX.out.2 HT.out wx).mono ?_
                    rintro e w' ⟨rfl, rfl⟩
                    exact ⟨_, rfl, rfl, Below.refl _ _⟩
                  · refine grd_none rfl ?_
                    have e0 := slot_eq (hag 11 rfl)
                    exact rel_pure _ rfl rfl (by simp [go_sem, e0])
                  · refine grd_none rfl ?_
                    have e0 := slot_eq (hdep ⟨6, .data⟩ (by simp) rfl)
                    have hq := (x11.keep hE).all.1
                    exact rel_pure _ rfl rfl (by simp [go_sem, e0, hq])
                  · refine grd_none rfl ?_
                    have e0 := slot_eq (hag 12 rfl)
                    exact rel_pure _ rfl rfl (by simp [go_sem, e0])
                  · refine grd_none rfl ?_
                    have e0 := slot_eq (hdep ⟨8, .data⟩ (by simp) rfl)
                    have hq := (x12.keep hE).all.1
                    exact rel_pure _ rfl rfl (by simp [go_sem, e0, hq])
                  · refine grd_none rfl ?_
                    have e0 := slot_eq (hag 10 rfl)
                    exact rel_pure _ rfl rfl (by simp [go_sem, e0])
                  · refine grd_none rfl ?_
                    have e0 := slot_eq (hdep ⟨7, .data⟩ (by simp) rfl)
                    have e1 := slot_eq (hdep ⟨9, .data⟩ (by simp) rfl)
                    have e2 := slot_eq (hdep ⟨10, .data⟩ (by simp) rfl)
                    refine rel_call (f := 35) (args := #[.float .f32 aY, .float .f32 bY, .float .f32 T]) (run_go_call Try.func35 (by kernel_rfl) (by kernel_rfl) _ _ _ _ _ _ _ _ _ _ (by simp [Act.eval, e0, e1, e2])) rfl ?_
                    refine (num_LerpP MY.out.1 MY.out.2 HT.out wx).mono ?_
                    rintro e w' ⟨rfl, rfl⟩
                    exact ⟨_, rfl, rfl, Below.refl _ _⟩
                  · refine grd_none rfl ?_
                    have e0 := slot_eq (hag 11 rfl)
                    exact rel_pure _ rfl rfl (by simp [go_sem, e0])
                · intro t op ht hlt; cases hlt
                intro vs wy hE hvs _
                have k5 : vs 5 = .float .f32 (lerpV aX bX T) := hvs 5 (by omega)
                have k11 : vs 11 = .float .f32 (lerpV aY bY T) := hvs 11 (by omega)
                have k12 : vs 12 = .pointer (some ⟨p11, 1, none⟩) := hvs 12 (by omega)
                simp only [List.drop_succ_cons, List.drop_zero, putAll, dstAt, List.getElem?_toArray, List.getElem?_cons_zero, List.getElem?_cons_succ, Option.bind_some, Act.put, List.setIfInBounds_toArray, List.set_cons_zero, List.set_cons_succ, k5, k11, k12]
                clear hvs k5 k11 k12
                replace x4 := x4.keep hE
                replace x11 := x11.keep hE
                replace x12 := x12.keep hE
                replace xg := xg.keep hE
                have hszB := B.size
                replace B := B.trans (hE.mono hszB)
                clear hE hszB
                obtain ⟨q11, f11, l11⟩ := x11.all
                go_upto_region 22 with fail
                refine name_world ?_
                intro wb hwb
                have y11 : Bx wb p11 25 #[.int .i64 akind, .float .f32 (lerpV aX bX T), .float .f32 (lerpV aY bY T), .float .f32 aWd, .float .f32 aH, .float .f32 aS, .slice (some ⟨g, 0, none⟩) apn vc, .bool aout] := by rw [hwb]; exact (x11.set 1 _).set 2 _
                replace x4 : Bx wb W.heap.size 25 #[.int .i64 0, .float .f32 0, .float .f32 0, .float .f32 0, .float .f32 0, .float .f32 0, .slice none 0 0, .bool false] := by rw [hwb]; exact (Bx.other (Bx.other x4 _ _ (by first | omega | (simp; done) | (simp; omega))) _ _ (by first | omega | (simp; done) | (simp; omega)))
                replace x12 : Bx wb p12 25 #[.int .i64 bkind, .float .f32 bX, .float .f32 bY, .float .f32 bWd, .float .f32 bH, .float .f32 bS, .slice (some ⟨bb, bo, none⟩) apn bpc, .bool bout] := by rw [hwb]; exact (Bx.other (Bx.other x12 _ _ (by first | omega | (simp; done) | (simp; omega))) _ _ (by first | omega | (simp; done) | (simp; omega)))
                replace xg : Bx wb g 71 cs := by rw [hwb]; exact (Bx.other (Bx.other xg _ _ (by first | omega | (simp; done) | (simp; omega))) _ _ (by first | omega | (simp; done) | (simp; omega)))
                replace B : Below W.heap.size W wb := by rw [hwb]; exact bput (by omega) (bput (by omega) B)
                clear hwb q11 f11 l11 x11
                have x11 := y11
                clear y11
                refine wp_region_grd 13 (fun _ => false) (fun q u w' => u = [.pointer (some ⟨p11, 3, none⟩), .float .f32 aWd, .pointer (some ⟨p12, 3, none⟩), .float .f32 bWd, .float .f32 T, .float .f32 (lerpV aWd bWd T), .pointer (some ⟨p11, 4, none⟩), .float .f32 aH, .pointer (some ⟨p12, 4, none⟩), .float .f32 bH, .float .f32 T, .float .f32 (lerpV aH bH T), .pointer (some ⟨p11, 3, none⟩)].getD q undef) (fun _ => false) (fun w' => Below wb.heap.size wb w') (by kernel_rfl) (by kernel_rfl) (fun _ _ _ _ _ h => h)
                  (fun _ _ h e => e.trans (h.mono e.size)) (fun t u a' b' hb h => ?_) (Below.refl _ _).drew ?_ ?_ ?_
                · exact h
                · intro t op ht hlt hop
                  clear hlt
                  rcases (by omega : t = 0 ∨ t = 1 ∨ t = 2 ∨ t = 3 ∨ t = 4 ∨ t = 5 ∨ t = 6 ∨ t = 7 ∨ t = 8 ∨ t = 9 ∨ t = 10 ∨ t = 11 ∨ t = 12) with rfl | rfl | rfl | rfl | rfl | rfl | rfl | rfl | rfl | rfl | rfl | rfl | rfl
                  all_goals simp only [List.getElem?_cons_zero, List.getElem?_cons_succ, Option.some.injEq] at hop
                  all_goals subst hop
                  all_goals intro a wx hE hag hdep
                  · refine grd_none rfl ?_
                    have e0 := slot_eq (hag 11 rfl)
                    exact rel_pure _ rfl rfl (by simp [go_sem, e0])
                  · refine grd_none rfl ?_
                    have e0 := slot_eq (hdep ⟨0, .data⟩ (by simp) rfl)
                    have hq := (x11.keep hE).all.1
                    exact rel_pure _ rfl rfl (by simp [go_sem, e0, hq])
                  · refine grd_none rfl ?_
                    have e0 := slot_eq (hag 12 rfl)
                    exact rel_pure _ rfl rfl (by simp [go_sem, e0])
                  · refine grd_none rfl ?_
                    have e0 := slot_eq (hdep ⟨2, .data⟩ (by simp) rfl)
                    have hq := (x12.keep hE).all.1
                    exact rel_pure _ rfl rfl (by simp [go_sem, e0, hq])
                  · refine grd_none rfl ?_
                    have e0 := slot_eq (hag 10 rfl)
                    exact rel_pure _ rfl rfl (by simp [go_sem, e0])
                  · refine grd_none rfl ?_
                    have e0 := slot_eq (hdep ⟨1, .data⟩ (by simp) rfl)
                    have e1 := slot_eq (hdep ⟨3, .data⟩ (by simp) rfl)
                    have e2 := slot_eq (hdep ⟨4, .data⟩ (by simp) rfl)
                    refine rel_call (f := 35) (args := #[.float .f32 aWd, .float .f32 bWd, .float .f32 T]) (run_go_call Try.func35 (by kernel_rfl) (by kernel_rfl) _ _ _ _ _ _ _ _ _ _ (by simp [Act.eval, e0, e1, e2])) rfl ?_
                    refine (num_LerpP MW.out.1 MW.out.2 HT.out wx).mono ?_
                    rintro e w' ⟨rfl, rfl⟩
                    exact ⟨_, rfl, rfl, Below.refl _ _⟩
                  · refine grd_none rfl ?_
                    have e0 := slot_eq (hag 11 rfl)
                    exact rel_pure _ rfl rfl (by simp [go_sem, e0])
                  · refine grd_none rfl ?_
                    have e0 := slot_eq (hdep ⟨6, .data⟩ (by simp) rfl)
                    have hq := (x11.keep hE).all.1
                    exact rel_pure _ rfl rfl (by simp [go_sem, e0, hq])
                  · refine grd_none rfl ?_
                    have e0 := slot_eq (hag 12 rfl)
                    exact rel_pure _ rfl rfl (by simp [go_sem, e0])
                  · refine grd_none rfl ?_
                    have e0 := slot_eq (hdep ⟨8, .data⟩ (by simp) rfl)
                    have hq := (x12.keep hE).all.1
                    exact rel_pure _ rfl rfl (by simp [go_sem, e0, hq])
                  · refine grd_none rfl ?_
                    have e0 := slot_eq (hag 10 rfl)
                    exact rel_pure _ rfl rfl (by simp [go_sem, e0])
                  · refine grd_none rfl ?_
                    have e0 := slot_eq (hdep ⟨7, .data⟩ (by simp) rfl)
                    have e1 := slot_eq (hdep ⟨9, .data⟩ (by simp) rfl)
                    have e2 := slot_eq (hdep ⟨10, .data⟩ (by simp) rfl)
                    refine rel_call (f := 35) (args := #[.float .f32 aH, .float .f32 bH, .float .f32 T]) (run_go_call Try.func35 (by kernel_rfl) (by kernel_rfl) _ _ _ _ _ _ _ _ _ _ (by simp [Act.eval, e0, e1, e2])) rfl ?_
                    refine (num_LerpP MH.out.1 MH.out.2 HT.out wx).mono ?_
                    rintro e w' ⟨rfl, rfl⟩
                    exact ⟨_, rfl, rfl, Below.refl _ _⟩
                  · refine grd_none rfl ?_
                    have e0 := slot_eq (hag 11 rfl)
                    exact rel_pure _ rfl rfl (by simp [go_sem, e0])
                · intro t op ht hlt; cases hlt
                intro vs wy hE hvs _
                have k5 : vs 5 = .float .f32 (lerpV aWd bWd T) := hvs 5 (by omega)
                have k11 : vs 11 = .float .f32 (lerpV aH bH T) := hvs 11 (by omega)
                have k12 : vs 12 = .pointer (some ⟨p11, 3, none⟩) := hvs 12 (by omega)
                simp only [List.drop_succ_cons, List.drop_zero, putAll, dstAt, List.getElem?_toArray, List.getElem?_cons_zero, List.getElem?_cons_succ, Option.bind_some, Act.put, List.setIfInBounds_toArray, List.set_cons_zero, List.set_cons_succ, k5, k11, k12]
                clear hvs k5 k11 k12
                replace x4 := x4.keep hE
                replace x11 := x11.keep hE
                replace x12 := x12.keep hE
                replace xg := xg.keep hE
                have hszB := B.size
                replace B := B.trans (hE.mono hszB)
                clear hE hszB
                obtain ⟨q11, f11, l11⟩ := x11.all
                go_upto_region 23 with fail
                refine name_world ?_
                intro wc hwc
                have y11 : Bx wc p11 25 #[.int .i64 akind, .float .f32 (lerpV aX bX T), .float .f32 (lerpV aY bY T), .float .f32 (lerpV aWd bWd T), .float .f32 (lerpV aH bH T), .float .f32 aS, .slice (some ⟨g, 0, none⟩) apn vc, .bool aout] := by rw [hwc]; exact (x11.set 3 _).set 4 _
                replace x4 : Bx wc W.heap.size 25 #[.int .i64 0, .float .f32 0, .float .f32 0, .float .f32 0, .float .f32 0, .float .f32 0, .slice none 0 0, .bool false] := by rw [hwc]; exact (Bx.other (Bx.other x4 _ _ (by first | omega | (simp; done) | (simp; omega))) _ _ (by first | omega | (simp; done) | (simp; omega)))
                replace x12 : Bx wc p12 25 #[.int .i64 bkind, .float .f32 bX, .float .f32 bY, .float .f32 bWd, .float .f32 bH, .float .f32 bS, .slice (some ⟨bb, bo, none⟩) apn bpc, .bool bout] := by rw [hwc]; exact (Bx.other (Bx.other x12 _ _ (by first | omega | (simp; done) | (simp; omega))) _ _ (by first | omega | (simp; done) | (simp; omega)))
                replace xg : Bx wc g 71 cs := by rw [hwc]; exact (Bx.other (Bx.other xg _ _ (by first | omega | (simp; done) | (simp; omega))) _ _ (by first | omega | (simp; done) | (simp; omega)))
                replace B : Below W.heap.size W wc := by rw [hwc]; exact bput (by omega) (bput (by omega) B)
                clear hwc q11 f11 l11 x11
                have x11 := y11
                clear y11
                obtain ⟨q11, f11, l11⟩ := x11.all
                obtain ⟨q12, f12, l12⟩ := x12.all
                go_wp2_with fail
                refine (num_LerpP MS.out.1 MS.out.2 HT.out _).mono ?_
                rintro e wd ⟨rfl, rfl⟩
                go_upto_region 24 with fail
                refine name_world ?_
                intro wd hwd
                have y11 : Bx wd p11 25 #[.int .i64 akind, .float .f32 (lerpV aX bX T), .float .f32 (lerpV aY bY T), .float .f32 (lerpV aWd bWd T), .float .f32 (lerpV aH bH T), .float .f32 (lerpV aS bS T), .slice (some ⟨g, 0, none⟩) apn vc, .bool aout] := by rw [hwd]; exact x11.set 5 _
                replace x4 : Bx wd W.heap.size 25 #[.int .i64 0, .float .f32 0, .float .f32 0, .float .f32 0, .float .f32 0, .float .f32 0, .slice none 0 0, .bool false] := by rw [hwd]; exact (Bx.other x4 _ _ (by first | omega | (simp; done) | (simp; omega)))
                replace x12 : Bx wd p12 25 #[.int .i64 bkind, .float .f32 bX, .float .f32 bY, .float .f32 bWd, .float .f32 bH, .float .f32 bS, .slice (some ⟨bb, bo, none⟩) apn bpc, .bool bout] := by rw [hwd]; exact (Bx.other x12 _ _ (by first | omega | (simp; done) | (simp; omega)))
                replace xg : Bx wd g 71 cs := by rw [hwd]; exact (Bx.other xg _ _ (by first | omega | (simp; done) | (simp; omega)))
                replace B : Below W.heap.size W wd := by rw [hwd]; exact bput (by omega) B
                clear hwd q11 f11 l11 q12 f12 l12 x11
                obtain ⟨q11, f11, l11⟩ := y11.all
                go_wp2_with fail
                go_loopw [128] (fun i wr => ∃ (m : Nat) (cs : Array Value), m ≤ apn ∧ i = .int .i64 (m : Int) ∧ HoldsX cs aps (mixP aps bps T) m ∧ Bx wr g 71 cs ∧ Bx wr p11 25 #[.int .i64 akind, .float .f32 (lerpV aX bX T), .float .f32 (lerpV aY bY T), .float .f32 (lerpV aWd bWd T), .float .f32 (lerpV aH bH T), .float .f32 (lerpV aS bS T), .slice (some ⟨g, 0, none⟩) apn vc, .bool aout] ∧ Bx wr p12 25 #[.int .i64 bkind, .float .f32 bX, .float .f32 bY, .float .f32 bWd, .float .f32 bH, .float .f32 bS, .slice (some ⟨bb, bo, none⟩) apn bpc, .bool bout] ∧ Bx wr W.heap.size 25 #[.int .i64 0, .float .f32 0, .float .f32 0, .float .f32 0, .float .f32 0, .float .f32 0, .slice none 0 0, .bool false] ∧ Below W.heap.size W wr) (fun i _ => apn - (intOf i).toNat)
                case atStart => exact ⟨0, cs, by omega, rfl, HoldsX.start hH.out, xg, y11, x12, x4, B⟩
                case round =>
                  clear xg y11 x12 x4 B q11 f11 l11
                  obtain ⟨m, cz, hm, rfl, hz, xg, y11, x12, x4, B⟩ := hrel
                  by_cases hmn : m < apn
                  · have hmi : (m : Int) < (apn : Int) := by omega
                    obtain ⟨s1, s2, s3⟩ := hz.step (by rw [← Hapn.out]; exact hmn)
                    have S3 := Lib.hid s3
                    clear s3 hz
                    obtain ⟨gq, gf, gl⟩ := xg.all
                    have c1 : wr.cell? ⟨g, m * 2, none⟩ = some (.int .i64 (aps.getD m default).1) := by rw [gq]; exact s1
                    have c2 : wr.cell? ⟨g, m * 2 + 1, none⟩ = some (.int .i64 (aps.getD m default).2) := by rw [gq]; exact s2
                    obtain ⟨U1, U2⟩ := hbp.out m (by rw [HPL.out, ← Hapn.out]; exact hmn)
                    have u1 := (B.cell (p := ⟨bb, bo + m * 2, none⟩) hbbl).trans U1
                    have r1 := MP1.out m (by rw [← Hapn.out]; exact hmn)
                    have r2 := MP2.out m (by rw [HPL.out, ← Hapn.out]; exact hmn)
                    rw [mixP_get _ _ _ _ (by rw [← Hapn.out]; exact hmn)] at S3
                    generalize (aps.getD m default).1 = px at *
                    generalize (aps.getD m default).2 = py at *
                    generalize (bps.getD m default).1 = qx at *
                    generalize (bps.getD m default).2 = qy at *
                    have S2 := Lib.hid s2
                    have HU2 := Lib.hid U2
                    clear s1 s2 gq gf gl U1 U2
                    have hszB := B.size
                    obtain ⟨q11, f11, l11⟩ := y11.all
                    have lg := xg.lt
                    go_upto_region 28 with fail
                    have hpk : Hid (∀ w', Below wr.heap.size wr w' → w'.cell? ⟨g, m * 2, none⟩ = some (.int .i64 px)) := Lib.hid fun w' h => (h.cell (p := ⟨g, m * 2, none⟩) lg).trans c1
                    have hqk : Hid (∀ w', Below wr.heap.size wr w' → w'.cell? ⟨bb, bo + m * 2, none⟩ = some (.int .i64 qx)) := Lib.hid fun w' h => (h.cell (p := ⟨bb, bo + m * 2, none⟩) (by show bb < wr.heap.size; omega)).trans u1
                    have hsm : Hid (SmB 20 (floatOfInt .f32 px) ∧ SmB 20 (floatOfInt .f32 qx)) := Lib.hid ⟨ofInt_smb r1.1 r1.2.1, ofInt_smb r2.1 r2.2.1⟩
                    refine wp_region_late 20 (fun q => q == 18 || q == 19) (fun q u w' => if q = 15 then ∃ bq, u = .tuple #[.int .i64 (mixI px qx T), .bool bq, .int .i64 0] else if q = 16 then ∃ bq, u = .tuple #[.int .i64 (mixI px qx T), .bool bq, .int .i64 0] else if q = 18 then ∃ bq, u = .bool bq else u = [.pointer (some ⟨g, m * 2, none⟩), .pointer (some ⟨g, m * 2, none⟩), .pointer (some ⟨g, m * 2, none⟩), .pointer (some ⟨g, m * 2, none⟩), .int .i64 px, .float .f32 (floatOfInt .f32 px), .pointer (some ⟨p12, 6, none⟩), .slice (some ⟨bb, bo, none⟩) apn bpc, .int .i64 (m : Int), .pointer (some ⟨bb, bo + m * 2, none⟩), .pointer (some ⟨bb, bo + m * 2, none⟩), .int .i64 qx, .float .f32 (floatOfInt .f32 qx), .float .f32 T, .float .f32 (lerpV (floatOfInt .f32 px) (floatOfInt .f32 qx) T), undef, undef, .int .i64 (mixI px qx T), undef, .int .i64 0].getD q undef) (fun _ => false) (fun w' => Below wr.heap.size wr w') (by kernel_rfl) (by kernel_rfl) (fun _ _ _ _ _ h => h)
                      (fun _ _ h e => e.trans (h.mono e.size)) (fun t u a' b' hb h => ?_) (Below.refl _ _).drew ?_ ?_ ?_
                    · exact h
                    · intro t op ht hlt hop
                      simp only [Bool.or_eq_false_iff, beq_eq_false_iff_ne] at hlt
                      rcases (by omega : t = 0 ∨ t = 1 ∨ t = 2 ∨ t = 3 ∨ t = 4 ∨ t = 5 ∨ t = 6 ∨ t = 7 ∨ t = 8 ∨ t = 9 ∨ t = 10 ∨ t = 11 ∨ t = 12 ∨ t = 13 ∨ t = 14 ∨ t = 15 ∨ t = 16 ∨ t = 17) with rfl | rfl | rfl | rfl | rfl | rfl | rfl | rfl | rfl | rfl | rfl | rfl | rfl | rfl | rfl | rfl | rfl | rfl
                      all_goals simp only [List.getElem?_cons_zero, List.getElem?_cons_succ, Option.some.injEq] at hop
                      all_goals subst hop
                      all_goals intro a wx hE hag hdep
                      · have e0 := slot_eq (hag 14 rfl)
                        exact rel_pure _ rfl rfl (by simp [go_sem, e0])
                      · have e0 := slot_eq (hag 14 rfl)
                        exact rel_pure _ rfl rfl (by simp [go_sem, e0])
                      · have e0 := slot_eq (hdep ⟨1, .data⟩ (by simp) rfl)
                        exact rel_pure _ rfl rfl (by simp [go_sem, e0])
                      · have e0 := slot_eq (hdep ⟨2, .data⟩ (by simp) rfl)
                        exact rel_pure _ rfl rfl (by simp [go_sem, e0])
                      · have e0 := slot_eq (hdep ⟨3, .data⟩ (by simp) rfl)
                        have hq := (hpk.out _ hE)
                        exact rel_pure _ rfl rfl (by simp [go_sem, e0, hq])
                      · have e0 := slot_eq (hdep ⟨4, .data⟩ (by simp) rfl)
                        exact rel_pure _ rfl rfl (by simp [go_sem, e0])
                      · have e0 := slot_eq (hag 12 rfl)
                        exact rel_pure _ rfl rfl (by simp [go_sem, e0])
                      · have e0 := slot_eq (hdep ⟨6, .data⟩ (by simp) rfl)
                        have hq := (x12.keep hE).all.1
                        exact rel_pure _ rfl rfl (by simp [go_sem, e0, hq])
                      · have e0 := slot_eq (hag 13 rfl)
                        exact rel_pure _ rfl rfl (by simp [go_sem, e0])
                      · have e0 := slot_eq (hdep ⟨7, .data⟩ (by simp) rfl)
                        have e1 := slot_eq (hdep ⟨8, .data⟩ (by simp) rfl)
                        exact rel_pure _ rfl rfl (by simp [go_sem, e0, e1, hmi])
                      · have e0 := slot_eq (hdep ⟨9, .data⟩ (by simp) rfl)
                        exact rel_pure _ rfl rfl (by simp [go_sem, e0])
                      · have e0 := slot_eq (hdep ⟨10, .data⟩ (by simp) rfl)
                        have hq := (hqk.out _ hE)
                        exact rel_pure _ rfl rfl (by simp [go_sem, e0, hq])
                      · have e0 := slot_eq (hdep ⟨11, .data⟩ (by simp) rfl)
                        exact rel_pure _ rfl rfl (by simp [go_sem, e0])
                      · have e0 := slot_eq (hag 10 rfl)
                        exact rel_pure _ rfl rfl (by simp [go_sem, e0])
                      · have e0 := slot_eq (hdep ⟨5, .data⟩ (by simp) rfl)
                        have e1 := slot_eq (hdep ⟨12, .data⟩ (by simp) rfl)
                        have e2 := slot_eq (hdep ⟨13, .data⟩ (by simp) rfl)
                        refine rel_call (f := 35) (args := #[.float .f32 (floatOfInt .f32 px), .float .f32 (floatOfInt .f32 qx), .float .f32 T]) (run_go_call Try.func35 (by kernel_rfl) (by kernel_rfl) _ _ _ _ _ _ _ _ _ _ (by simp [Act.eval, e0, e1, e2])) rfl ?_
                        refine (num_LerpP hsm.out.1 hsm.out.2 HT.out wx).mono ?_
                        rintro e w' ⟨rfl, rfl⟩
                        exact ⟨_, rfl, rfl, Below.refl _ _⟩
                      · have e0 := slot_eq (hdep ⟨14, .data⟩ (by simp) rfl)
                        refine rel_call (f := 36) (args := #[.float .f32 (lerpV (floatOfInt .f32 px) (floatOfInt .f32 qx) T), .int .i64 (-1048576), .int .i64 1048576]) (run_go_call Try.func36 (by kernel_rfl) (by kernel_rfl) _ _ _ _ _ _ _ _ _ _ (by simp [Act.eval, e0])) rfl ?_
                        refine (num_Near (lerpV_nn hsm.out.1 hsm.out.2 HT.out) wx).mono ?_
                        rintro e w' ⟨bq, rfl, rfl⟩
                        exact ⟨_, rfl, ⟨bq, rfl⟩, Below.refl _ _⟩
                      · obtain ⟨bq, e0⟩ := hdep ⟨15, .data⟩ (by simp) rfl
                        have e0 := slot_eq e0
                        exact rel_pure _ rfl ⟨bq, rfl⟩ (by simp [go_sem, e0])
                      · obtain ⟨bq, e0⟩ := hdep ⟨16, .data⟩ (by simp) rfl
                        have e0 := slot_eq e0
                        exact rel_pure _ rfl rfl (by simp [go_sem, e0])
                    · intro t op ht hlt hop a wx hE hdep
                      simp only [Bool.or_eq_true, beq_iff_eq] at hlt
                      rcases (by omega : t = 18 ∨ t = 19) with rfl | rfl
                      all_goals simp only [List.getElem?_cons_zero, List.getElem?_cons_succ, Option.some.injEq] at hop
                      all_goals subst hop
                      · obtain ⟨bq, e0⟩ := hdep ⟨16, .data⟩ (by simp) rfl
                        have e0 := slot_eq e0
                        exact ⟨rfl, _, ⟨bq, rfl⟩, fun u => by simp [go_sem, e0]⟩
                      · obtain ⟨bq, e0⟩ := hdep ⟨16, .data⟩ (by simp) rfl
                        have e0 := slot_eq e0
                        exact ⟨rfl, _, rfl, fun u => by simp [go_sem, e0]⟩
                    intro vs wy hE hvs _
                    have k0 : vs 0 = .pointer (some ⟨g, m * 2, none⟩) := hvs 0 (by omega)
                    have k17 : vs 17 = .int .i64 (mixI px qx T) := hvs 17 (by omega)
                    simp only [List.drop_succ_cons, List.drop_zero, putAll, dstAt, List.getElem?_toArray, List.getElem?_cons_zero, List.getElem?_cons_succ, Option.bind_some, Act.put, List.setIfInBounds_toArray, List.set_cons_zero, List.set_cons_succ, k0, k17]
                    clear hvs k0 k17

                    replace c1 := (hE.cell (p := ⟨g, m * 2, none⟩) lg).trans c1
                    replace xg := xg.keep hE
                    replace y11 := y11.keep hE
                    replace x12 := x12.keep hE
                    replace x4 := x4.keep hE
                    replace B := B.trans (hE.mono hszB)
                    clear hE hpk hqk hsm u1 hszB q11 f11 l11 lg c2
                    obtain ⟨gq, gf, gl⟩ := xg.all
                    clear gq
                    go_upto_region 29 with fail
                    refine name_world ?_
                    intro wz hwz
                    have xg2 : Bx wz g 71 (cz.setIfInBounds (m * 2) (.int .i64 (mixI px qx T))) := by rw [hwz]; exact xg.set _ _
                    have c2 : wz.cell? ⟨g, m * 2 + 1, none⟩ = some (.int .i64 py) := by rw [xg2.all.1 (m * 2 + 1), Array.getElem?_setIfInBounds_ne (by omega)]; exact S2.out
                    replace y11 : Bx wz p11 25 #[.int .i64 akind, .float .f32 (lerpV aX bX T), .float .f32 (lerpV aY bY T), .float .f32 (lerpV aWd bWd T), .float .f32 (lerpV aH bH T), .float .f32 (lerpV aS bS T), .slice (some ⟨g, 0, none⟩) apn vc, .bool aout] := by rw [hwz]; exact (Bx.other y11 _ _ (by first | omega | (simp; done) | (simp; omega)))
                    replace x12 : Bx wz p12 25 #[.int .i64 bkind, .float .f32 bX, .float .f32 bY, .float .f32 bWd, .float .f32 bH, .float .f32 bS, .slice (some ⟨bb, bo, none⟩) apn bpc, .bool bout] := by rw [hwz]; exact (Bx.other x12 _ _ (by first | omega | (simp; done) | (simp; omega)))
                    replace x4 : Bx wz W.heap.size 25 #[.int .i64 0, .float .f32 0, .float .f32 0, .float .f32 0, .float .f32 0, .float .f32 0, .slice none 0 0, .bool false] := by rw [hwz]; exact (Bx.other x4 _ _ (by first | omega | (simp; done) | (simp; omega)))
                    replace B : Below W.heap.size W wz := by rw [hwz]; exact bput (by omega) B
                    have u2 := (B.cell (p := ⟨bb, bo + m * 2 + 1, none⟩) hbbl).trans HU2.out
                    clear hwz xg gf gl c1
                    have hszB := B.size
                    have lg := xg2.lt
                    have hpk : Hid (∀ w', Below wz.heap.size wz w' → w'.cell? ⟨g, m * 2 + 1, none⟩ = some (.int .i64 py)) := Lib.hid fun w' h => (h.cell (p := ⟨g, m * 2 + 1, none⟩) lg).trans c2
                    have hqk : Hid (∀ w', Below wz.heap.size wz w' → w'.cell? ⟨bb, bo + m * 2 + 1, none⟩ = some (.int .i64 qy)) := Lib.hid fun w' h => (h.cell (p := ⟨bb, bo + m * 2 + 1, none⟩) (by show bb < wz.heap.size; omega)).trans u2
                    have hsm : Hid (SmB 20 (floatOfInt .f32 py) ∧ SmB 20 (floatOfInt .f32 qy)) := Lib.hid ⟨ofInt_smb r1.2.2.1 r1.2.2.2, ofInt_smb r2.2.2.1 r2.2.2.2⟩
                    refine wp_region_late 20 (fun q => q == 18 || q == 19) (fun q u w' => if q = 15 then ∃ bq, u = .tuple #[.int .i64 (mixI py qy T), .bool bq, .int .i64 0] else if q = 16 then ∃ bq, u = .tuple #[.int .i64 (mixI py qy T), .bool bq, .int .i64 0] else if q = 18 then ∃ bq, u = .bool bq else u = [.pointer (some ⟨g, m * 2, none⟩), .pointer (some ⟨g, m * 2, none⟩), .pointer (some ⟨g, m * 2, none⟩), .pointer (some ⟨g, m * 2 + 1, none⟩), .int .i64 py, .float .f32 (floatOfInt .f32 py), .pointer (some ⟨p12, 6, none⟩), .slice (some ⟨bb, bo, none⟩) apn bpc, .int .i64 (m : Int), .pointer (some ⟨bb, bo + m * 2, none⟩), .pointer (some ⟨bb, bo + m * 2 + 1, none⟩), .int .i64 qy, .float .f32 (floatOfInt .f32 qy), .float .f32 T, .float .f32 (lerpV (floatOfInt .f32 py) (floatOfInt .f32 qy) T), undef, undef, .int .i64 (mixI py qy T), undef, .int .i64 0].getD q undef) (fun _ => false) (fun w' => Below wz.heap.size wz w') (by kernel_rfl) (by kernel_rfl) (fun _ _ _ _ _ h => h)
                      (fun _ _ h e => e.trans (h.mono e.size)) (fun t u a' b' hb h => ?_) (Below.refl _ _).drew ?_ ?_ ?_
                    · exact h
                    · intro t op ht hlt hop
                      simp only [Bool.or_eq_false_iff, beq_eq_false_iff_ne] at hlt
                      rcases (by omega : t = 0 ∨ t = 1 ∨ t = 2 ∨ t = 3 ∨ t = 4 ∨ t = 5 ∨ t = 6 ∨ t = 7 ∨ t = 8 ∨ t = 9 ∨ t = 10 ∨ t = 11 ∨ t = 12 ∨ t = 13 ∨ t = 14 ∨ t = 15 ∨ t = 16 ∨ t = 17) with rfl | rfl | rfl | rfl | rfl | rfl | rfl | rfl | rfl | rfl | rfl | rfl | rfl | rfl | rfl | rfl | rfl | rfl
                      all_goals simp only [List.getElem?_cons_zero, List.getElem?_cons_succ, Option.some.injEq] at hop
                      all_goals subst hop
                      all_goals intro a wx hE hag hdep
                      · have e0 := slot_eq (hag 14 rfl)
                        exact rel_pure _ rfl rfl (by simp [go_sem, e0])
                      · have e0 := slot_eq (hag 14 rfl)
                        exact rel_pure _ rfl rfl (by simp [go_sem, e0])
                      · have e0 := slot_eq (hdep ⟨1, .data⟩ (by simp) rfl)
                        exact rel_pure _ rfl rfl (by simp [go_sem, e0])
                      · have e0 := slot_eq (hdep ⟨2, .data⟩ (by simp) rfl)
                        exact rel_pure _ rfl rfl (by simp [go_sem, e0])
                      · have e0 := slot_eq (hdep ⟨3, .data⟩ (by simp) rfl)
                        have hq := (hpk.out _ hE)
                        exact rel_pure _ rfl rfl (by simp [go_sem, e0, hq])
                      · have e0 := slot_eq (hdep ⟨4, .data⟩ (by simp) rfl)
                        exact rel_pure _ rfl rfl (by simp [go_sem, e0])
                      · have e0 := slot_eq (hag 12 rfl)
                        exact rel_pure _ rfl rfl (by simp [go_sem, e0])
                      · have e0 := slot_eq (hdep ⟨6, .data⟩ (by simp) rfl)
                        have hq := (x12.keep hE).all.1
                        exact rel_pure _ rfl rfl (by simp [go_sem, e0, hq])
                      · have e0 := slot_eq (hag 13 rfl)
                        exact rel_pure _ rfl rfl (by simp [go_sem, e0])
                      · have e0 := slot_eq (hdep ⟨7, .data⟩ (by simp) rfl)
                        have e1 := slot_eq (hdep ⟨8, .data⟩ (by simp) rfl)
                        exact rel_pure _ rfl rfl (by simp [go_sem, e0, e1, hmi])
                      · have e0 := slot_eq (hdep ⟨9, .data⟩ (by simp) rfl)
                        exact rel_pure _ rfl rfl (by simp [go_sem, e0])
                      · have e0 := slot_eq (hdep ⟨10, .data⟩ (by simp) rfl)
                        have hq := (hqk.out _ hE)
                        exact rel_pure _ rfl rfl (by simp [go_sem, e0, hq])
                      · have e0 := slot_eq (hdep ⟨11, .data⟩ (by simp) rfl)
                        exact rel_pure _ rfl rfl (by simp [go_sem, e0])
                      · have e0 := slot_eq (hag 10 rfl)
                        exact rel_pure _ rfl rfl (by simp [go_sem, e0])
                      · have e0 := slot_eq (hdep ⟨5, .data⟩ (by simp) rfl)
                        have e1 := slot_eq (hdep ⟨12, .data⟩ (by simp) rfl)
                        have e2 := slot_eq (hdep ⟨13, .data⟩ (by simp) rfl)
                        refine rel_call (f := 35) (args := #[.float .f32 (floatOfInt .f32 py), .float .f32 (floatOfInt .f32 qy), .float .f32 T]) (run_go_call Try.func35 (by kernel_rfl) (by kernel_rfl) _ _ _ _ _ _ _ _ _ _ (by simp [Act.eval, e0, e1, e2])) rfl ?_
                        refine (num_LerpP hsm.out.1 hsm.out.2 HT.out wx).mono ?_
                        rintro e w' ⟨rfl, rfl⟩
                        exact ⟨_, rfl, rfl, Below.refl _ _⟩
                      · have e0 := slot_eq (hdep ⟨14, .data⟩ (by simp) rfl)
                        refine rel_call (f := 36) (args := #[.float .f32 (lerpV (floatOfInt .f32 py) (floatOfInt .f32 qy) T), .int .i64 (-1048576), .int .i64 1048576]) (run_go_call Try.func36 (by kernel_rfl) (by kernel_rfl) _ _ _ _ _ _ _ _ _ _ (by simp [Act.eval, e0])) rfl ?_
                        refine (num_Near (lerpV_nn hsm.out.1 hsm.out.2 HT.out) wx).mono ?_
                        rintro e w' ⟨bq, rfl, rfl⟩
                        exact ⟨_, rfl, ⟨bq, rfl⟩, Below.refl _ _⟩
                      · obtain ⟨bq, e0⟩ := hdep ⟨15, .data⟩ (by simp) rfl
                        have e0 := slot_eq e0
                        exact rel_pure _ rfl ⟨bq, rfl⟩ (by simp [go_sem, e0])
                      · obtain ⟨bq, e0⟩ := hdep ⟨16, .data⟩ (by simp) rfl
                        have e0 := slot_eq e0
                        exact rel_pure _ rfl rfl (by simp [go_sem, e0])
                    · intro t op ht hlt hop a wx hE hdep
                      simp only [Bool.or_eq_true, beq_iff_eq] at hlt
                      rcases (by omega : t = 18 ∨ t = 19) with rfl | rfl
                      all_goals simp only [List.getElem?_cons_zero, List.getElem?_cons_succ, Option.some.injEq] at hop
                      all_goals subst hop
                      · obtain ⟨bq, e0⟩ := hdep ⟨16, .data⟩ (by simp) rfl
                        have e0 := slot_eq e0
                        exact ⟨rfl, _, ⟨bq, rfl⟩, fun u => by simp [go_sem, e0]⟩
                      · obtain ⟨bq, e0⟩ := hdep ⟨16, .data⟩ (by simp) rfl
                        have e0 := slot_eq e0
                        exact ⟨rfl, _, rfl, fun u => by simp [go_sem, e0]⟩
                    intro vs wy hE hvs _
                    have k0 : vs 0 = .pointer (some ⟨g, m * 2, none⟩) := hvs 0 (by omega)
                    have k17 : vs 17 = .int .i64 (mixI py qy T) := hvs 17 (by omega)
                    simp only [List.drop_succ_cons, List.drop_zero, putAll, dstAt, List.getElem?_toArray, List.getElem?_cons_zero, List.getElem?_cons_succ, Option.bind_some, Act.put, List.setIfInBounds_toArray, List.set_cons_zero, List.set_cons_succ, k0, k17]
                    clear hvs k0 k17

                    replace xg2 := xg2.keep hE
                    replace y11 := y11.keep hE
                    replace x12 := x12.keep hE
                    replace x4 := x4.keep hE
                    replace B := B.trans (hE.mono hszB)
                    replace c2 := (hE.cell (p := ⟨g, m * 2 + 1, none⟩) lg).trans c2
                    clear hE hpk hqk hsm u2 hszB lg
                    obtain ⟨gq, gf, gl⟩ := xg2.all
                    clear gq
                    go_wp2_with fail
                    go_roundw
                    case rel => exact ⟨m + 1, _, by omega, by go_num, S3.out, xg2.set _ _, (Bx.other y11 _ _ (by first | omega | (simp; done) | (simp; omega))), (Bx.other x12 _ _ (by first | omega | (simp; done) | (simp; omega))), (Bx.other x4 _ _ (by first | omega | (simp; done) | (simp; omega))), bput (by omega) B⟩
                    case measure => simp [intOf]; omega
                  · obtain rfl : m = apn := by omega
                    have hfull := hz
                    rw [Hapn.out] at hfull
                    have hP := Lib.hid (hfull.full (mixP_len _ _ _))
                    clear hz hfull
                    obtain ⟨q4, f4, l4⟩ := x4.all
                    obtain ⟨q11, f11, l11⟩ := y11.all
                    go_wp2_with fail
                    refine bodyPost_ret (v := .tuple #[.agg #[.int .i64 akind, .float .f32 (lerpV aX bX T), .float .f32 (lerpV aY bY T), .float .f32 (lerpV aWd bWd T), .float .f32 (lerpV aH bH T), .float .f32 (lerpV aS bS T), .slice (some ⟨g, 0, none⟩) m vc, .bool aout], .int .i64 0]) (by simp [results, Try.results11, go_sem, q4]) rfl ⟨_, Hidx.out, some ⟨g, 0, none⟩, vc, by rw [Hwin.out]; show _ = Ending.returned (.tuple #[.agg #[_, _, _, _, _, _, .slice _ (mixP aps bps T).length _, _], _]); rw [mixP_len, ← Hapn.out], ?_, bput (by omega) (bput (by omega) (bput (by omega) (bput (by omega) (bput (by omega) (bput (by omega) (bput (by omega) (bput (by omega) (B))))))))⟩
                    rw [Hwin.out]
                    show SlP _ (.slice (some ⟨g, 0, none⟩) (mixP aps bps T).length vc) (mixP aps bps T)
                    exact hP.out.slP ((Bx.other (Bx.other (Bx.other (Bx.other (Bx.other (Bx.other (Bx.other (Bx.other xg _ _ (by first | omega | (simp; done) | (simp; omega))) _ _ (by first | omega | (simp; done) | (simp; omega))) _ _ (by first | omega | (simp; done) | (simp; omega))) _ _ (by first | omega | (simp; done) | (simp; omega))) _ _ (by first | omega | (simp; done) | (simp; omega))) _ _ (by first | omega | (simp; done) | (simp; omega))) _ _ (by first | omega | (simp; done) | (simp; omega))) _ _ (by first | omega | (simp; done) | (simp; omega)))) (by rw [mixP_len]; unfold maxLen; omega) vc
            have ee3 : (aease == 3) = false := beq_eq_false_iff_ne.2 he3
            by_cases he1 : aease = 1
            · have hT1 : T = 0 := by rw [hT, shareT, if_neg he3, if_pos he1]
              have ee1 : (aease == 1) = true := by rw [he1]; rfl
              generalize fop .quo (floatOfInt .f32 (f - afr)) (floatOfInt .f32 (bfr - afr)) = t0 at *
              subst hT1
              clear hT hqn
              go_upto_region 19 with fail
              refine name_world ?_
              intro w5 hw5
              have hb5 : Below w3.heap.size w3 w5 := by first | exact b_eqd2 hw5 (Below.refl _ _) | (rw [hw5]; exact Below.refl _ _)
              replace x4 := x4.keep hb5
              replace x8 := x8.keep hb5
              replace x9 := x9.keep hb5
              replace B := bcall B hb5
              clear hb5 hw5 q8 f8 l8 q9 f9 l9
              obtain ⟨q8, f8, l8⟩ := x8.all
              go_wp2_with fail
              refine (key_cloned akind aX aY aWd aH aS (.slice apa apn apc) aps aout _ (by omega) (Hasp.out.keep B)).mono ?_
              rintro e w6 ⟨v', rfl, hcp, hb⟩
              have hbk := Lib.hid hb
              rcases hcp with ⟨haps, va, vc, rfl⟩ | ⟨hne, g, vc, cs, rfl, hBg, xg, hvc, hH0⟩
              · subst haps
                obtain rfl : apn = 0 := Hapn.out
                have lx9 := x9.lt
                have lx4 := x4.lt
                have hsz6 := hb.size
                replace x4 := x4.keep hb
                replace B := bcall B hb
                clear hb x8 q8 f8 l8
                replace x9 := x9.keep hbk.out
                obtain ⟨q9, f9, l9⟩ := x9.all
                go_upto_region 20 with fail
                refine name_world ?_
                intro w7 hw7
                have x11 : Bx w7 w6.heap.size 25 #[.int .i64 akind, .float .f32 aX, .float .f32 aY, .float .f32 aWd, .float .f32 aH, .float .f32 aS, .slice va 0 vc, .bool aout] := by rw [hw7]; exact Bx.new _ _ _
                have hb7 := below_eqK hw7
                replace x4 := x4.keep hb7
                replace x9 := x9.keep hb7


                have hp11 : W.heap.size < w6.heap.size := by omega
                replace B := bcall B hb7
                clear hb7 hw7 q9 f9 l9 hbk
                generalize w6.heap.size = p11 at *
                obtain ⟨q9, f9, l9⟩ := x9.all
                go_upto_region 21 with fail
                refine name_world ?_
                intro wa hwa
                have x12 : Bx wa w7.heap.size 25 #[.int .i64 bkind, .float .f32 bX, .float .f32 bY, .float .f32 bWd, .float .f32 bH, .float .f32 bS, .slice bpa 0 bpc, .bool bout] := by rw [hwa]; exact Bx.new _ _ _
                have hb8 := below_eqK hwa
                have hp12 : p11 < w7.heap.size := x11.lt
                replace x4 := x4.keep hb8
                replace x11 := x11.keep hb8

                replace B := bcall B hb8
                clear hb8 hwa q9 f9 l9 x9
                generalize w7.heap.size = p12 at *
                refine wp_region_grd 13 (fun _ => false) (fun q u w' => u = [.pointer (some ⟨p11, 1, none⟩), .float .f32 aX, .pointer (some ⟨p12, 1, none⟩), .float .f32 bX, .float .f32 0, .float .f32 (lerpV aX bX 0), .pointer (some ⟨p11, 2, none⟩), .float .f32 aY, .pointer (some ⟨p12, 2, none⟩), .float .f32 bY, .float .f32 0, .float .f32 (lerpV aY bY 0), .pointer (some ⟨p11, 1, none⟩)].getD q undef) (fun _ => false) (fun w' => Below wa.heap.size wa w') (by kernel_rfl) (by kernel_rfl) (fun _ _ _ _ _ h => h)
                  (fun _ _ h e => e.trans (h.mono e.size)) (fun t u a' b' hb h => ?_) (Below.refl _ _).drew ?_ ?_ ?_
                · exact h
                · intro t op ht hlt hop
                  clear hlt
                  rcases (by omega : t = 0 ∨ t = 1 ∨ t = 2 ∨ t = 3 ∨ t = 4 ∨ t = 5 ∨ t = 6 ∨ t = 7 ∨ t = 8 ∨ t = 9 ∨ t = 10 ∨ t = 11 ∨ t = 12) with rfl | rfl | rfl | rfl | rfl | rfl | rfl | rfl | rfl | rfl | rfl | rfl | rfl
                  all_goals simp only [List.getElem?_cons_zero, List.getElem?_cons_succ, Option.some.injEq] at hop
                  all_goals subst hop
                  all_goals intro a wx hE hag hdep
                  · refine grd_none rfl ?_
                    have e0 := slot_eq (hag 11 rfl)
                    exact rel_pure _ rfl rfl (by simp [go_sem, e0])
                  · refine grd_none rfl ?_
                    have e0 := slot_eq (hdep ⟨0, .data⟩ (by simp) rfl)
                    have hq := (x11.keep hE).all.1
                    exact rel_pure _ rfl rfl (by simp [go_sem, e0, hq])
                  · refine grd_none rfl ?_
                    have e0 := slot_eq (hag 12 rfl)
                    exact rel_pure _ rfl rfl (by simp [go_sem, e0])
                  · refine grd_none rfl ?_
                    have e0 := slot_eq (hdep ⟨2, .data⟩ (by simp) rfl)
                    have hq := (x12.keep hE).all.1
                    exact rel_pure _ rfl rfl (by simp [go_sem, e0, hq])
                  · refine grd_none rfl ?_
                    have e0 := slot_eq (hag 10 rfl)
                    exact rel_pure _ rfl rfl (by simp [go_sem, e0])
                  · refine grd_none rfl ?_
                    have e0 := slot_eq (hdep ⟨1, .data⟩ (by simp) rfl)
                    have e1 := slot_eq (hdep ⟨3, .data⟩ (by simp) rfl)
                    have e2 := slot_eq (hdep ⟨4, .data⟩ (by simp) rfl)
                    refine rel_call (f := 35) (args := #[.float .f32 aX, .float .f32 bX, .float .f32 0]) (run_go_call Try.func35 (by kernel_rfl) (by kernel_rfl) _ _ _ _ _ _ _ _ _ _ (by simp [Act.eval, e0, e1, e2])) rfl ?_
                    refine (num_LerpP MX.out.1 MX.out.2 HT.out wx).mono ?_
                    rintro e w' ⟨rfl, rfl⟩
                    exact ⟨_, rfl, rfl, Below.refl _ _⟩
                  · refine grd_none rfl ?_
                    have e0 := slot_eq (hag 11 rfl)
                    exact rel_pure _ rfl rfl (by simp [go_sem, e0])
                  · refine grd_none rfl ?_
                    have e0 := slot_eq (hdep ⟨6, .data⟩ (by simp) rfl)
                    have hq := (x11.keep hE).all.1
                    exact rel_pure _ rfl rfl (by simp [go_sem, e0, hq])
                  · refine grd_none rfl ?_
                    have e0 := slot_eq (hag 12 rfl)
                    exact rel_pure _ rfl rfl (by simp [go_sem, e0])
                  · refine grd_none rfl ?_
                    have e0 := slot_eq (hdep ⟨8, .data⟩ (by simp) rfl)
                    have hq := (x12.keep hE).all.1
                    exact rel_pure _ rfl rfl (by simp [go_sem, e0, hq])
                  · refine grd_none rfl ?_
                    have e0 := slot_eq (hag 10 rfl)
                    exact rel_pure _ rfl rfl (by simp [go_sem, e0])
                  · refine grd_none rfl ?_
                    have e0 := slot_eq (hdep ⟨7, .data⟩ (by simp) rfl)
                    have e1 := slot_eq (hdep ⟨9, .data⟩ (by simp) rfl)
                    have e2 := slot_eq (hdep ⟨10, .data⟩ (by simp) rfl)
                    refine rel_call (f := 35) (args := #[.float .f32 aY, .float .f32 bY, .float .f32 0]) (run_go_call Try.func35 (by kernel_rfl) (by kernel_rfl) _ _ _ _ _ _ _ _ _ _ (by simp [Act.eval, e0, e1, e2])) rfl ?_
                    refine (num_LerpP MY.out.1 MY.out.2 HT.out wx).mono ?_
                    rintro e w' ⟨rfl, rfl⟩
                    exact ⟨_, rfl, rfl, Below.refl _ _⟩
                  · refine grd_none rfl ?_
                    have e0 := slot_eq (hag 11 rfl)
                    exact rel_pure _ rfl rfl (by simp [go_sem, e0])
                · intro t op ht hlt; cases hlt
                intro vs wy hE hvs _
                have k5 : vs 5 = .float .f32 (lerpV aX bX 0) := hvs 5 (by omega)
                have k11 : vs 11 = .float .f32 (lerpV aY bY 0) := hvs 11 (by omega)
                have k12 : vs 12 = .pointer (some ⟨p11, 1, none⟩) := hvs 12 (by omega)
                simp only [List.drop_succ_cons, List.drop_zero, putAll, dstAt, List.getElem?_toArray, List.getElem?_cons_zero, List.getElem?_cons_succ, Option.bind_some, Act.put, List.setIfInBounds_toArray, List.set_cons_zero, List.set_cons_succ, k5, k11, k12]
                clear hvs k5 k11 k12
                replace x4 := x4.keep hE
                replace x11 := x11.keep hE
                replace x12 := x12.keep hE
                have hszB := B.size
                replace B := B.trans (hE.mono hszB)
                clear hE hszB
                obtain ⟨q11, f11, l11⟩ := x11.all
                go_upto_region 22 with fail
                refine name_world ?_
                intro wb hwb
                have y11 : Bx wb p11 25 #[.int .i64 akind, .float .f32 (lerpV aX bX 0), .float .f32 (lerpV aY bY 0), .float .f32 aWd, .float .f32 aH, .float .f32 aS, .slice va 0 vc, .bool aout] := by rw [hwb]; exact (x11.set 1 _).set 2 _
                replace x4 : Bx wb W.heap.size 25 #[.int .i64 0, .float .f32 0, .float .f32 0, .float .f32 0, .float .f32 0, .float .f32 0, .slice none 0 0, .bool false] := by rw [hwb]; exact (Bx.other (Bx.other x4 _ _ (by first | omega | (simp; done) | (simp; omega))) _ _ (by first | omega | (simp; done) | (simp; omega)))
                replace x12 : Bx wb p12 25 #[.int .i64 bkind, .float .f32 bX, .float .f32 bY, .float .f32 bWd, .float .f32 bH, .float .f32 bS, .slice bpa 0 bpc, .bool bout] := by rw [hwb]; exact (Bx.other (Bx.other x12 _ _ (by first | omega | (simp; done) | (simp; omega))) _ _ (by first | omega | (simp; done) | (simp; omega)))

                replace B : Below W.heap.size W wb := by rw [hwb]; exact bput (by omega) (bput (by omega) B)
                clear hwb q11 f11 l11 x11
                have x11 := y11
                clear y11
                refine wp_region_grd 13 (fun _ => false) (fun q u w' => u = [.pointer (some ⟨p11, 3, none⟩), .float .f32 aWd, .pointer (some ⟨p12, 3, none⟩), .float .f32 bWd, .float .f32 0, .float .f32 (lerpV aWd bWd 0), .pointer (some ⟨p11, 4, none⟩), .float .f32 aH, .pointer (some ⟨p12, 4, none⟩), .float .f32 bH, .float .f32 0, .float .f32 (lerpV aH bH 0), .pointer (some ⟨p11, 3, none⟩)].getD q undef) (fun _ => false) (fun w' => Below wb.heap.size wb w') (by kernel_rfl) (by kernel_rfl) (fun _ _ _ _ _ h => h)
                  (fun _ _ h e => e.trans (h.mono e.size)) (fun t u a' b' hb h => ?_) (Below.refl _ _).drew ?_ ?_ ?_
                · exact h
                · intro t op ht hlt hop
                  clear hlt
                  rcases (by omega : t = 0 ∨ t = 1 ∨ t = 2 ∨ t = 3 ∨ t = 4 ∨ t = 5 ∨ t = 6 ∨ t = 7 ∨ t = 8 ∨ t = 9 ∨ t = 10 ∨ t = 11 ∨ t = 12) with rfl | rfl | rfl | rfl | rfl | rfl | rfl | rfl | rfl | rfl | rfl | rfl | rfl
                  all_goals simp only [List.getElem?_cons_zero, List.getElem?_cons_succ, Option.some.injEq] at hop
                  all_goals subst hop
                  all_goals intro a wx hE hag hdep
                  · refine grd_none rfl ?_
                    have e0 := slot_eq (hag 11 rfl)
                    exact rel_pure _ rfl rfl (by simp [go_sem, e0])
                  · refine grd_none rfl ?_
                    have e0 := slot_eq (hdep ⟨0, .data⟩ (by simp) rfl)
                    have hq := (x11.keep hE).all.1
                    exact rel_pure _ rfl rfl (by simp [go_sem, e0, hq])
                  · refine grd_none rfl ?_
                    have e0 := slot_eq (hag 12 rfl)
                    exact rel_pure _ rfl rfl (by simp [go_sem, e0])
                  · refine grd_none rfl ?_
                    have e0 := slot_eq (hdep ⟨2, .data⟩ (by simp) rfl)
                    have hq := (x12.keep hE).all.1
                    exact rel_pure _ rfl rfl (by simp [go_sem, e0, hq])
                  · refine grd_none rfl ?_
                    have e0 := slot_eq (hag 10 rfl)
                    exact rel_pure _ rfl rfl (by simp [go_sem, e0])
                  · refine grd_none rfl ?_
                    have e0 := slot_eq (hdep ⟨1, .data⟩ (by simp) rfl)
                    have e1 := slot_eq (hdep ⟨3, .data⟩ (by simp) rfl)
                    have e2 := slot_eq (hdep ⟨4, .data⟩ (by simp) rfl)
                    refine rel_call (f := 35) (args := #[.float .f32 aWd, .float .f32 bWd, .float .f32 0]) (run_go_call Try.func35 (by kernel_rfl) (by kernel_rfl) _ _ _ _ _ _ _ _ _ _ (by simp [Act.eval, e0, e1, e2])) rfl ?_
                    refine (num_LerpP MW.out.1 MW.out.2 HT.out wx).mono ?_
                    rintro e w' ⟨rfl, rfl⟩
                    exact ⟨_, rfl, rfl, Below.refl _ _⟩
                  · refine grd_none rfl ?_
                    have e0 := slot_eq (hag 11 rfl)
                    exact rel_pure _ rfl rfl (by simp [go_sem, e0])
                  · refine grd_none rfl ?_
                    have e0 := slot_eq (hdep ⟨6, .data⟩ (by simp) rfl)
                    have hq := (x11.keep hE).all.1
                    exact rel_pure _ rfl rfl (by simp [go_sem, e0, hq])
                  · refine grd_none rfl ?_
                    have e0 := slot_eq (hag 12 rfl)
                    exact rel_pure _ rfl rfl (by simp [go_sem, e0])
                  · refine grd_none rfl ?_
                    have e0 := slot_eq (hdep ⟨8, .data⟩ (by simp) rfl)
                    have hq := (x12.keep hE).all.1
                    exact rel_pure _ rfl rfl (by simp [go_sem, e0, hq])
                  · refine grd_none rfl ?_
                    have e0 := slot_eq (hag 10 rfl)
                    exact rel_pure _ rfl rfl (by simp [go_sem, e0])
                  · refine grd_none rfl ?_
                    have e0 := slot_eq (hdep ⟨7, .data⟩ (by simp) rfl)
                    have e1 := slot_eq (hdep ⟨9, .data⟩ (by simp) rfl)
                    have e2 := slot_eq (hdep ⟨10, .data⟩ (by simp) rfl)
                    refine rel_call (f := 35) (args := #[.float .f32 aH, .float .f32 bH, .float .f32 0]) (run_go_call Try.func35 (by kernel_rfl) (by kernel_rfl) _ _ _ _ _ _ _ _ _ _ (by simp [Act.eval, e0, e1, e2])) rfl ?_
                    refine (num_LerpP MH.out.1 MH.out.2 HT.out wx).mono ?_
                    rintro e w' ⟨rfl, rfl⟩
                    exact ⟨_, rfl, rfl, Below.refl _ _⟩
                  · refine grd_none rfl ?_
                    have e0 := slot_eq (hag 11 rfl)
                    exact rel_pure _ rfl rfl (by simp [go_sem, e0])
                · intro t op ht hlt; cases hlt
                intro vs wy hE hvs _
                have k5 : vs 5 = .float .f32 (lerpV aWd bWd 0) := hvs 5 (by omega)
                have k11 : vs 11 = .float .f32 (lerpV aH bH 0) := hvs 11 (by omega)
                have k12 : vs 12 = .pointer (some ⟨p11, 3, none⟩) := hvs 12 (by omega)
                simp only [List.drop_succ_cons, List.drop_zero, putAll, dstAt, List.getElem?_toArray, List.getElem?_cons_zero, List.getElem?_cons_succ, Option.bind_some, Act.put, List.setIfInBounds_toArray, List.set_cons_zero, List.set_cons_succ, k5, k11, k12]
                clear hvs k5 k11 k12
                replace x4 := x4.keep hE
                replace x11 := x11.keep hE
                replace x12 := x12.keep hE
                have hszB := B.size
                replace B := B.trans (hE.mono hszB)
                clear hE hszB
                obtain ⟨q11, f11, l11⟩ := x11.all
                go_upto_region 23 with fail
                refine name_world ?_
                intro wc hwc
                have y11 : Bx wc p11 25 #[.int .i64 akind, .float .f32 (lerpV aX bX 0), .float .f32 (lerpV aY bY 0), .float .f32 (lerpV aWd bWd 0), .float .f32 (lerpV aH bH 0), .float .f32 aS, .slice va 0 vc, .bool aout] := by rw [hwc]; exact (x11.set 3 _).set 4 _
                replace x4 : Bx wc W.heap.size 25 #[.int .i64 0, .float .f32 0, .float .f32 0, .float .f32 0, .float .f32 0, .float .f32 0, .slice none 0 0, .bool false] := by rw [hwc]; exact (Bx.other (Bx.other x4 _ _ (by first | omega | (simp; done) | (simp; omega))) _ _ (by first | omega | (simp; done) | (simp; omega)))
                replace x12 : Bx wc p12 25 #[.int .i64 bkind, .float .f32 bX, .float .f32 bY, .float .f32 bWd, .float .f32 bH, .float .f32 bS, .slice bpa 0 bpc, .bool bout] := by rw [hwc]; exact (Bx.other (Bx.other x12 _ _ (by first | omega | (simp; done) | (simp; omega))) _ _ (by first | omega | (simp; done) | (simp; omega)))

                replace B : Below W.heap.size W wc := by rw [hwc]; exact bput (by omega) (bput (by omega) B)
                clear hwc q11 f11 l11 x11
                have x11 := y11
                clear y11
                obtain ⟨q11, f11, l11⟩ := x11.all
                obtain ⟨q12, f12, l12⟩ := x12.all
                go_wp2_with fail
                refine (num_LerpP MS.out.1 MS.out.2 HT.out _).mono ?_
                rintro e wd ⟨rfl, rfl⟩
                go_upto_region 24 with fail
                refine name_world ?_
                intro wd hwd
                have y11 : Bx wd p11 25 #[.int .i64 akind, .float .f32 (lerpV aX bX 0), .float .f32 (lerpV aY bY 0), .float .f32 (lerpV aWd bWd 0), .float .f32 (lerpV aH bH 0), .float .f32 (lerpV aS bS 0), .slice va 0 vc, .bool aout] := by rw [hwd]; exact x11.set 5 _
                replace x4 : Bx wd W.heap.size 25 #[.int .i64 0, .float .f32 0, .float .f32 0, .float .f32 0, .float .f32 0, .float .f32 0, .slice none 0 0, .bool false] := by rw [hwd]; exact (Bx.other x4 _ _ (by first | omega | (simp; done) | (simp; omega)))
                replace x12 : Bx wd p12 25 #[.int .i64 bkind, .float .f32 bX, .float .f32 bY, .float .f32 bWd, .float .f32 bH, .float .f32 bS, .slice bpa 0 bpc, .bool bout] := by rw [hwd]; exact (Bx.other x12 _ _ (by first | omega | (simp; done) | (simp; omega)))

                replace B : Below W.heap.size W wd := by rw [hwd]; exact bput (by omega) B
                clear hwd q11 f11 l11 q12 f12 l12 x11
                obtain ⟨q11, f11, l11⟩ := y11.all
                go_wp2_with fail
                go_loopw [128] (fun i wr => i = .int .i64 0 ∧ Bx wr p11 25 #[.int .i64 akind, .float .f32 (lerpV aX bX 0), .float .f32 (lerpV aY bY 0), .float .f32 (lerpV aWd bWd 0), .float .f32 (lerpV aH bH 0), .float .f32 (lerpV aS bS 0), .slice va 0 vc, .bool aout] ∧ Bx wr W.heap.size 25 #[.int .i64 0, .float .f32 0, .float .f32 0, .float .f32 0, .float .f32 0, .float .f32 0, .slice none 0 0, .bool false] ∧ Below W.heap.size W wr) (fun i _ => (intOf i).toNat)
                case atStart => exact ⟨rfl, y11, x4, B⟩
                case round =>
                  clear y11 x12 x4 B q11 f11 l11
                  obtain ⟨rfl, y11, x4, B⟩ := hrel
                  obtain ⟨q4, f4, l4⟩ := x4.all
                  obtain ⟨q11, f11, l11⟩ := y11.all
                  go_wp2_with fail
                  refine bodyPost_ret (v := .tuple #[.agg #[.int .i64 akind, .float .f32 (lerpV aX bX 0), .float .f32 (lerpV aY bY 0), .float .f32 (lerpV aWd bWd 0), .float .f32 (lerpV aH bH 0), .float .f32 (lerpV aS bS 0), .slice va 0 vc, .bool aout], .int .i64 0]) (by simp [results, Try.results11, go_sem, q4]) rfl ⟨_, Hidx.out, va, vc, by rw [Hwin.out]; rfl, ?_, bput (by omega) (bput (by omega) (bput (by omega) (bput (by omega) (bput (by omega) (bput (by omega) (bput (by omega) (bput (by omega) (B))))))))⟩
                  rw [Hwin.out]
                  exact ⟨va, vc, rfl, by show (0 : Nat) ≤ _; omega, .inl rfl⟩
              · have hgl : g < w6.heap.size := xg.lt
                have hH := Lib.hid hH0
                clear hH0
                rw [← Hapn.out]
                obtain ⟨bb, bo, rfl, hbbl, hbp0⟩ : ∃ bb bo, bpa = some ⟨bb, bo, none⟩ ∧ bb < W.heap.size ∧ ∀ k, k < bps.length → PtAt W bb (bo + k * 2) (bps.getD k default) := by
                  obtain ⟨a1, c1, h1, _, h2⟩ := Hbsp.out
                  rcases h2 with h2 | ⟨bb, bo, h3, h4, h5⟩
                  · exfalso
                    have := HPL.out
                    rw [h2] at this
                    exact hne (List.eq_nil_of_length_eq_zero this.symm)
                  · injection h1 with h1
                    exact ⟨bb, bo, h1.trans h3, h4, h5⟩
                have hbp := Lib.hid hbp0
                clear hbp0
                have lx9 := x9.lt
                have lx4 := x4.lt
                have hsz6 := hb.size
                replace x4 := x4.keep hb
                replace B := bcall B hb
                clear hb x8 q8 f8 l8
                replace x9 := x9.keep hbk.out
                obtain ⟨q9, f9, l9⟩ := x9.all
                go_upto_region 20 with fail
                refine name_world ?_
                intro w7 hw7
                have x11 : Bx w7 w6.heap.size 25 #[.int .i64 akind, .float .f32 aX, .float .f32 aY, .float .f32 aWd, .float .f32 aH, .float .f32 aS, .slice (some ⟨g, 0, none⟩) apn vc, .bool aout] := by rw [hw7]; exact Bx.new _ _ _
                have hb7 := below_eqK hw7
                replace x4 := x4.keep hb7
                replace x9 := x9.keep hb7
                replace xg := xg.keep hb7
                have hgl : g < w6.heap.size := hgl
                have hp11 : W.heap.size < w6.heap.size := by omega
                replace B := bcall B hb7
                clear hb7 hw7 q9 f9 l9 hbk
                generalize w6.heap.size = p11 at *
                obtain ⟨q9, f9, l9⟩ := x9.all
                go_upto_region 21 with fail
                refine name_world ?_
                intro wa hwa
                have x12 : Bx wa w7.heap.size 25 #[.int .i64 bkind, .float .f32 bX, .float .f32 bY, .float .f32 bWd, .float .f32 bH, .float .f32 bS, .slice (some ⟨bb, bo, none⟩) apn bpc, .bool bout] := by rw [hwa]; exact Bx.new _ _ _
                have hb8 := below_eqK hwa
                have hp12 : p11 < w7.heap.size := x11.lt
                replace x4 := x4.keep hb8
                replace x11 := x11.keep hb8
                replace xg := xg.keep hb8
                replace B := bcall B hb8
                clear hb8 hwa q9 f9 l9 x9
                generalize w7.heap.size = p12 at *
                refine wp_region_grd 13 (fun _ => false) (fun q u w' => u = [.pointer (some ⟨p11, 1, none⟩), .float .f32 aX, .pointer (some ⟨p12, 1, none⟩), .float .f32 bX, .float .f32 0, .float .f32 (lerpV aX bX 0), .pointer (some ⟨p11, 2, none⟩), .float .f32 aY, .pointer (some ⟨p12, 2, none⟩), .float .f32 bY, .float .f32 0, .float .f32 (lerpV aY bY 0), .pointer (some ⟨p11, 1, none⟩)].getD q undef) (fun _ => false) (fun w' => Below wa.heap.size wa w') (by kernel_rfl) (by kernel_rfl) (fun _ _ _ _ _ h => h)
                  (fun _ _ h e => e.trans (h.mono e.size)) (fun t u a' b' hb h => ?_) (Below.refl _ _).drew ?_ ?_ ?_
                · exact h
                · intro t op ht hlt hop
                  clear hlt
                  rcases (by omega : t = 0 ∨ t = 1 ∨ t = 2 ∨ t = 3 ∨ t = 4 ∨ t = 5 ∨ t = 6 ∨ t = 7 ∨ t = 8 ∨ t = 9 ∨ t = 10 ∨ t = 11 ∨ t = 12) with rfl | rfl | rfl | rfl | rfl | rfl | rfl | rfl | rfl | rfl | rfl | rfl | rfl
                  all_goals simp only [List.getElem?_cons_zero, List.getElem?_cons_succ, Option.some.injEq] at hop
                  all_goals subst hop
                  all_goals intro a wx hE hag hdep
                  · refine grd_none rfl ?_
                    have e0 := slot_eq (hag 11 rfl)
                    exact rel_pure _ rfl rfl (by simp [go_sem, e0])
                  · refine grd_none rfl ?_
                    have e0 := slot_eq (hdep ⟨0, .data⟩ (by simp) rfl)
                    have hq := (x11.keep hE).all.1
                    exact rel_pure _ rfl rfl (by simp [go_sem, e0, hq])
                  · refine grd_none rfl ?_
                    have e0 := slot_eq (hag 12 rfl)
                    exact rel_pure _ rfl rfl (by simp [go_sem, e0])
                  · refine grd_none rfl ?_
                    have e0 := slot_eq (hdep ⟨2, .data⟩ (by simp) rfl)
                    have hq := (x12.keep hE).all.1
                    exact rel_pure _ rfl rfl (by simp [go_sem, e0, hq])
                  · refine grd_none rfl ?_
                    have e0 := slot_eq (hag 10 rfl)
                    exact rel_pure _ rfl rfl (by simp [go_sem, e0])
                  · refine grd_none rfl ?_
                    have e0 := slot_eq (hdep ⟨1, .data⟩ (by simp) rfl)
                    have e1 := slot_eq (hdep ⟨3, .data⟩ (by simp) rfl)
                    have e2 := slot_eq (hdep ⟨4, .data⟩ (by simp) rfl)
                    refine rel_call (f := 35) (args := #[.float .f32 aX, .float .f32 bX, .float .f32 0]) (run_go_call Try.func35 (by kernel_rfl) (by kernel_rfl) _ _ _ _ _ _ _ _ _ _ (by simp [Act.eval, e0, e1, e2])) rfl ?_
                    refine (num_LerpP MX.out.1 MX.out.2 HT.out wx).mono ?_
                    rintro e w' ⟨rfl, rfl⟩
                    exact ⟨_, rfl, rfl, Below.refl _ _⟩
                  · refine grd_none rfl ?_
                    have e0 := slot_eq (hag 11 rfl)
                    exact rel_pure _ rfl rfl (by simp [go_sem, e0])
                  · refine grd_none rfl ?_
                    have e0 := slot_eq (hdep ⟨6, .data⟩ (by simp) rfl)
                    have hq := (x11.keep hE).all.1
                    exact rel_pure _ rfl rfl (by simp [go_sem, e0, hq])
                  · refine grd_none rfl ?_
                    have e0 := slot_eq (hag 12 rfl)
                    exact rel_pure _ rfl rfl (by simp [go_sem, e0])
                  · refine grd_none rfl ?_
                    have e0 := slot_eq (hdep ⟨8, .data⟩ (by simp) rfl)
                    have hq := (x12.keep hE).all.1
                    exact rel_pure _ rfl rfl (by simp [go_sem, e0, hq])
                  · refine grd_none rfl ?_
                    have e0 := slot_eq (hag 10 rfl)
                    exact rel_pure _ rfl rfl (by simp [go_sem, e0])
                  · refine grd_none rfl ?_
                    have e0 := slot_eq (hdep ⟨7, .data⟩ (by simp) rfl)
                    have e1 := slot_eq (hdep ⟨9, .data⟩ (by simp) rfl)
                    have e2 := slot_eq (hdep ⟨10, .data⟩ (by simp) rfl)
                    refine rel_call (f := 35) (args := #[.float .f32 aY, .float .f32 bY, .float .f32 0]) (run_go_call Try.func35 (by kernel_rfl) (by kernel_rfl) _ _ _ _ _ _ _ _ _ _ (by simp [Act.eval, e0, e1, e2])) rfl ?_
                    refine (num_LerpP MY.out.1 MY.out.2 HT.out wx).mono ?_
                    rintro e w' ⟨rfl, rfl⟩
                    exact ⟨_, rfl, rfl, Below.refl _ _⟩
                  · refine grd_none rfl ?_
                    have e0 := slot_eq (hag 11 rfl)
                    exact rel_pure _ rfl rfl (by simp [go_sem, e0])
                · intro t op ht hlt; cases hlt
                intro vs wy hE hvs _
                have k5 : vs 5 = .float .f32 (lerpV aX bX 0) := hvs 5 (by omega)
                have k11 : vs 11 = .float .f32 (lerpV aY bY 0) := hvs 11 (by omega)
                have k12 : vs 12 = .pointer (some ⟨p11, 1, none⟩) := hvs 12 (by omega)
                simp only [List.drop_succ_cons, List.drop_zero, putAll, dstAt, List.getElem?_toArray, List.getElem?_cons_zero, List.getElem?_cons_succ, Option.bind_some, Act.put, List.setIfInBounds_toArray, List.set_cons_zero, List.set_cons_succ, k5, k11, k12]
                clear hvs k5 k11 k12
                replace x4 := x4.keep hE
                replace x11 := x11.keep hE
                replace x12 := x12.keep hE
                replace xg := xg.keep hE
                have hszB := B.size
                replace B := B.trans (hE.mono hszB)
                clear hE hszB
                obtain ⟨q11, f11, l11⟩ := x11.all
                go_upto_region 22 with fail
                refine name_world ?_
                intro wb hwb
                have y11 : Bx wb p11 25 #[.int .i64 akind, .float .f32 (lerpV aX bX 0), .float .f32 (lerpV aY bY 0), .float .f32 aWd, .float .f32 aH, .float .f32 aS, .slice (some ⟨g, 0, none⟩) apn vc, .bool aout] := by rw [hwb]; exact (x11.set 1 _).set 2 _
                replace x4 : Bx wb W.heap.size 25 #[.int .i64 0, .float .f32 0, .float .f32 0, .float .f32 0, .float .f32 0, .float .f32 0, .slice none 0 0, .bool false] := by rw [hwb]; exact (Bx.other (Bx.other x4 _ _ (by first | omega | (simp; done) | (simp; omega))) _ _ (by first | omega | (simp; done) | (simp; omega)))
                replace x12 : Bx wb p12 25 #[.int .i64 bkind, .float .f32 bX, .float .f32 bY, .float .f32 bWd, .float .f32 bH, .float .f32 bS, .slice (some ⟨bb, bo, none⟩) apn bpc, .bool bout] := by rw [hwb]; exact (Bx.other (Bx.other x12 _ _ (by first | omega | (simp; done) | (simp; omega))) _ _ (by first | omega | (simp; done) | (simp; omega)))
                replace xg : Bx wb g 71 cs := by rw [hwb]; exact (Bx.other (Bx.other xg _ _ (by first | omega | (simp; done) | (simp; omega))) _ _ (by first | omega | (simp; done) | (simp; omega)))
                replace B : Below W.heap.size W wb := by rw [hwb]; exact bput (by omega) (bput (by omega) B)
                clear hwb q11 f11 l11 x11
                have x11 := y11
                clear y11
                refine wp_region_grd 13 (fun _ => false) (fun q u w' => u = [.pointer (some ⟨p11, 3, none⟩), .float .f32 aWd, .pointer (some ⟨p12, 3, none⟩), .float .f32 bWd, .float .f32 0, .float .f32 (lerpV aWd bWd 0), .pointer (some ⟨p11, 4, none⟩), .float .f32 aH, .pointer (some ⟨p12, 4, none⟩), .float .f32 bH, .float .f32 0, .float .f32 (lerpV aH bH 0), .pointer (some ⟨p11, 3, none⟩)].getD q undef) (fun _ => false) (fun w' => Below wb.heap.size wb w') (by kernel_rfl) (by kernel_rfl) (fun _ _ _ _ _ h => h)
                  (fun _ _ h e => e.trans (h.mono e.size)) (fun t u a' b' hb h => ?_) (Below.refl _ _).drew ?_ ?_ ?_
                · exact h
                · intro t op ht hlt hop
                  clear hlt
                  rcases (by omega : t = 0 ∨ t = 1 ∨ t = 2 ∨ t = 3 ∨ t = 4 ∨ t = 5 ∨ t = 6 ∨ t = 7 ∨ t = 8 ∨ t = 9 ∨ t = 10 ∨ t = 11 ∨ t = 12) with rfl | rfl | rfl | rfl | rfl | rfl | rfl | rfl | rfl | rfl | rfl | rfl | rfl
                  all_goals simp only [List.getElem?_cons_zero, List.getElem?_cons_succ, Option.some.injEq] at hop
                  all_goals subst hop
                  all_goals intro a wx hE hag hdep
                  · refine grd_none rfl ?_
                    have e0 := slot_eq (hag 11 rfl)
                    exact rel_pure _ rfl rfl (by simp [go_sem, e0])
                  · refine grd_none rfl ?_
                    have e0 := slot_eq (hdep ⟨0, .data⟩ (by simp) rfl)
                    have hq := (x11.keep hE).all.1
                    exact rel_pure _ rfl rfl (by simp [go_sem, e0, hq])
                  · refine grd_none rfl ?_
                    have e0 := slot_eq (hag 12 rfl)
                    exact rel_pure _ rfl rfl (by simp [go_sem, e0])
                  · refine grd_none rfl ?_
                    have e0 := slot_eq (hdep ⟨2, .data⟩ (by simp) rfl)
                    have hq := (x12.keep hE).all.1
                    exact rel_pure _ rfl rfl (by simp [go_sem, e0, hq])
                  · refine grd_none rfl ?_
                    have e0 := slot_eq (hag 10 rfl)
                    exact rel_pure _ rfl rfl (by simp [go_sem, e0])
                  · refine grd_none rfl ?_
                    have e0 := slot_eq (hdep ⟨1, .data⟩ (by simp) rfl)
                    have e1 := slot_eq (hdep ⟨3, .data⟩ (by simp) rfl)
                    have e2 := slot_eq (hdep ⟨4, .data⟩ (by simp) rfl)
                    refine rel_call (f := 35) (args := #[.float .f32 aWd, .float .f32 bWd, .float .f32 0]) (run_go_call Try.func35 (by kernel_rfl) (by kernel_rfl) _ _ _ _ _ _ _ _ _ _ (by simp [Act.eval, e0, e1, e2])) rfl ?_
                    refine (num_LerpP MW.out.1 MW.out.2 HT.out wx).mono ?_
                    rintro e w' ⟨rfl, rfl⟩
                    exact ⟨_, rfl, rfl, Below.refl _ _⟩
                  · refine grd_none rfl ?_
                    have e0 := slot_eq (hag 11 rfl)
                    exact rel_pure _ rfl rfl (by simp [go_sem, e0])
                  · refine grd_none rfl ?_
                    have e0 := slot_eq (hdep ⟨6, .data⟩ (by simp) rfl)
                    have hq := (x11.keep hE).all.1
                    exact rel_pure _ rfl rfl (by simp [go_sem, e0, hq])
                  · refine grd_none rfl ?_
                    have e0 := slot_eq (hag 12 rfl)
                    exact rel_pure _ rfl rfl (by simp [go_sem, e0])
                  · refine grd_none rfl ?_
                    have e0 := slot_eq (hdep ⟨8, .data⟩ (by simp) rfl)
                    have hq := (x12.keep hE).all.1
                    exact rel_pure _ rfl rfl (by simp [go_sem, e0, hq])
                  · refine grd_none rfl ?_
                    have e0 := slot_eq (hag 10 rfl)
                    exact rel_pure _ rfl rfl (by simp [go_sem, e0])
                  · refine grd_none rfl ?_
                    have e0 := slot_eq (hdep ⟨7, .data⟩ (by simp) rfl)
                    have e1 := slot_eq (hdep ⟨9, .data⟩ (by simp) rfl)
                    have e2 := slot_eq (hdep ⟨10, .data⟩ (by simp) rfl)
                    refine rel_call (f := 35) (args := #[.float .f32 aH, .float .f32 bH, .float .f32 0]) (run_go_call Try.func35 (by kernel_rfl) (by kernel_rfl) _ _ _ _ _ _ _ _ _ _ (by simp [Act.eval, e0, e1, e2])) rfl ?_
                    refine (num_LerpP MH.out.1 MH.out.2 HT.out wx).mono ?_
                    rintro e w' ⟨rfl, rfl⟩
                    exact ⟨_, rfl, rfl, Below.refl _ _⟩
                  · refine grd_none rfl ?_
                    have e0 := slot_eq (hag 11 rfl)
                    exact rel_pure _ rfl rfl (by simp [go_sem, e0])
                · intro t op ht hlt; cases hlt
                intro vs wy hE hvs _
                have k5 : vs 5 = .float .f32 (lerpV aWd bWd 0) := hvs 5 (by omega)
                have k11 : vs 11 = .float .f32 (lerpV aH bH 0) := hvs 11 (by omega)
                have k12 : vs 12 = .pointer (some ⟨p11, 3, none⟩) := hvs 12 (by omega)
                simp only [List.drop_succ_cons, List.drop_zero, putAll, dstAt, List.getElem?_toArray, List.getElem?_cons_zero, List.getElem?_cons_succ, Option.bind_some, Act.put, List.setIfInBounds_toArray, List.set_cons_zero, List.set_cons_succ, k5, k11, k12]
                clear hvs k5 k11 k12
                replace x4 := x4.keep hE
                replace x11 := x11.keep hE
                replace x12 := x12.keep hE
                replace xg := xg.keep hE
                have hszB := B.size
                replace B := B.trans (hE.mono hszB)
                clear hE hszB
                obtain ⟨q11, f11, l11⟩ := x11.all
                go_upto_region 23 with fail
                refine name_world ?_
                intro wc hwc
                have y11 : Bx wc p11 25 #[.int .i64 akind, .float .f32 (lerpV aX bX 0), .float .f32 (lerpV aY bY 0), .float .f32 (lerpV aWd bWd 0), .float .f32 (lerpV aH bH 0), .float .f32 aS, .slice (some ⟨g, 0, none⟩) apn vc, .bool aout] := by rw [hwc]; exact (x11.set 3 _).set 4 _
                replace x4 : Bx wc W.heap.size 25 #[.int .i64 0, .float .f32 0, .float .f32 0, .float .f32 0, .float .f32 0, .float .f32 0, .slice none 0 0, .bool false] := by rw [hwc]; exact (Bx.other (Bx.other x4 _ _ (by first | omega | (simp; done) | (simp; omega))) _ _ (by first | omega | (simp; done) | (simp; omega)))
                replace x12 : Bx wc p12 25 #[.int .i64 bkind, .float .f32 bX, .float .f32 bY, .float .f32 bWd, .float .f32 bH, .float .f32 bS, .slice (some ⟨bb, bo, none⟩) apn bpc, .bool bout] := by rw [hwc]; exact (Bx.other (Bx.other x12 _ _ (by first | omega | (simp; done) | (simp; omega))) _ _ (by first | omega | (simp; done) | (simp; omega)))
                replace xg : Bx wc g 71 cs := by rw [hwc]; exact (Bx.other (Bx.other xg _ _ (by first | omega | (simp; done) | (simp; omega))) _ _ (by first | omega | (simp; done) | (simp; omega)))
                replace B : Below W.heap.size W wc := by rw [hwc]; exact bput (by omega) (bput (by omega) B)
                clear hwc q11 f11 l11 x11
                have x11 := y11
                clear y11
                obtain ⟨q11, f11, l11⟩ := x11.all
                obtain ⟨q12, f12, l12⟩ := x12.all
                go_wp2_with fail
                refine (num_LerpP MS.out.1 MS.out.2 HT.out _).mono ?_
                rintro e wd ⟨rfl, rfl⟩
                go_upto_region 24 with fail
                refine name_world ?_
                intro wd hwd
                have y11 : Bx wd p11 25 #[.int .i64 akind, .float .f32 (lerpV aX bX 0), .float .f32 (lerpV aY bY 0), .float .f32 (lerpV aWd bWd 0), .float .f32 (lerpV aH bH 0), .float .f32 (lerpV aS bS 0), .slice (some ⟨g, 0, none⟩) apn vc, .bool aout] := by rw [hwd]; exact x11.set 5 _
                replace x4 : Bx wd W.heap.size 25 #[.int .i64 0, .float .f32 0, .float .f32 0, .float .f32 0, .float .f32 0, .float .f32 0, .slice none 0 0, .bool false] := by rw [hwd]; exact (Bx.other x4 _ _ (by first | omega | (simp; done) | (simp; omega)))
                replace x12 : Bx wd p12 25 #[.int .i64 bkind, .float .f32 bX, .float .f32 bY, .float .f32 bWd, .float .f32 bH, .float .f32 bS, .slice (some ⟨bb, bo, none⟩) apn bpc, .bool bout] := by rw [hwd]; exact (Bx.other x12 _ _ (by first | omega | (simp; done) | (simp; omega)))
                replace xg : Bx wd g 71 cs := by rw [hwd]; exact (Bx.other xg _ _ (by first | omega | (simp; done) | (simp; omega)))
                replace B : Below W.heap.size W wd := by rw [hwd]; exact bput (by omega) B
                clear hwd q11 f11 l11 q12 f12 l12 x11
                obtain ⟨q11, f11, l11⟩ := y11.all
                go_wp2_with fail
                go_loopw [128] (fun i wr => ∃ (m : Nat) (cs : Array Value), m ≤ apn ∧ i = .int .i64 (m : Int) ∧ HoldsX cs aps (mixP aps bps 0) m ∧ Bx wr g 71 cs ∧ Bx wr p11 25 #[.int .i64 akind, .float .f32 (lerpV aX bX 0), .float .f32 (lerpV aY bY 0), .float .f32 (lerpV aWd bWd 0), .float .f32 (lerpV aH bH 0), .float .f32 (lerpV aS bS 0), .slice (some ⟨g, 0, none⟩) apn vc, .bool aout] ∧ Bx wr p12 25 #[.int .i64 bkind, .float .f32 bX, .float .f32 bY, .float .f32 bWd, .float .f32 bH, .float .f32 bS, .slice (some ⟨bb, bo, none⟩) apn bpc, .bool bout] ∧ Bx wr W.heap.size 25 #[.int .i64 0, .float .f32 0, .float .f32 0, .float .f32 0, .float .f32 0, .float .f32 0, .slice none 0 0, .bool false] ∧ Below W.heap.size W wr) (fun i _ => apn - (intOf i).toNat)
                case atStart => exact ⟨0, cs, by omega, rfl, HoldsX.start hH.out, xg, y11, x12, x4, B⟩
                case round =>
                  clear xg y11 x12 x4 B q11 f11 l11
                  obtain ⟨m, cz, hm, rfl, hz, xg, y11, x12, x4, B⟩ := hrel
                  by_cases hmn : m < apn
                  · have hmi : (m : Int) < (apn : Int) := by omega
                    obtain ⟨s1, s2, s3⟩ := hz.step (by rw [← Hapn.out]; exact hmn)
                    have S3 := Lib.hid s3
                    clear s3 hz
                    obtain ⟨gq, gf, gl⟩ := xg.all
                    have c1 : wr.cell? ⟨g, m * 2, none⟩ = some (.int .i64 (aps.getD m default).1) := by rw [gq]; exact s1
                    have c2 : wr.cell? ⟨g, m * 2 + 1, none⟩ = some (.int .i64 (aps.getD m default).2) := by rw [gq]; exact s2
                    obtain ⟨U1, U2⟩ := hbp.out m (by rw [HPL.out, ← Hapn.out]; exact hmn)
                    have u1 := (B.cell (p := ⟨bb, bo + m * 2, none⟩) hbbl).trans U1
                    have r1 := MP1.out m (by rw [← Hapn.out]; exact hmn)
                    have r2 := MP2.out m (by rw [HPL.out, ← Hapn.out]; exact hmn)
                    rw [mixP_get _ _ _ _ (by rw [← Hapn.out]; exact hmn)] at S3
                    generalize (aps.getD m default).1 = px at *
                    generalize (aps.getD m default).2 = py at *
                    generalize (bps.getD m default).1 = qx at *
                    generalize (bps.getD m default).2 = qy at *
                    have S2 := Lib.hid s2
                    have HU2 := Lib.hid U2
                    clear s1 s2 gq gf gl U1 U2
                    have hszB := B.size
                    obtain ⟨q11, f11, l11⟩ := y11.all
                    have lg := xg.lt
                    go_upto_region 28 with fail
                    have hpk : Hid (∀ w', Below wr.heap.size wr w' → w'.cell? ⟨g, m * 2, none⟩ = some (.int .i64 px)) := Lib.hid fun w' h => (h.cell (p := ⟨g, m * 2, none⟩) lg).trans c1
                    have hqk : Hid (∀ w', Below wr.heap.size wr w' → w'.cell? ⟨bb, bo + m * 2, none⟩ = some (.int .i64 qx)) := Lib.hid fun w' h => (h.cell (p := ⟨bb, bo + m * 2, none⟩) (by show bb < wr.heap.size; omega)).trans u1
                    have hsm : Hid (SmB 20 (floatOfInt .f32 px) ∧ SmB 20 (floatOfInt .f32 qx)) := Lib.hid ⟨ofInt_smb r1.1 r1.2.1, ofInt_smb r2.1 r2.2.1⟩
                    refine wp_region_late 20 (fun q => q == 18 || q == 19) (fun q u w' => if q = 15 then ∃ bq, u = .tuple #[.int .i64 (mixI px qx 0), .bool bq, .int .i64 0] else if q = 16 then ∃ bq, u = .tuple #[.int .i64 (mixI px qx 0), .bool bq, .int .i64 0] else if q = 18 then ∃ bq, u = .bool bq else u = [.pointer (some ⟨g, m * 2, none⟩), .pointer (some ⟨g, m * 2, none⟩), .pointer (some ⟨g, m * 2, none⟩), .pointer (some ⟨g, m * 2, none⟩), .int .i64 px, .float .f32 (floatOfInt .f32 px), .pointer (some ⟨p12, 6, none⟩), .slice (some ⟨bb, bo, none⟩) apn bpc, .int .i64 (m : Int), .pointer (some ⟨bb, bo + m * 2, none⟩), .pointer (some ⟨bb, bo + m * 2, none⟩), .int .i64 qx, .float .f32 (floatOfInt .f32 qx), .float .f32 0, .float .f32 (lerpV (floatOfInt .f32 px) (floatOfInt .f32 qx) 0), undef, undef, .int .i64 (mixI px qx 0), undef, .int .i64 0].getD q undef) (fun _ => false) (fun w' => Below wr.heap.size wr w') (by kernel_rfl) (by kernel_rfl) (fun _ _ _ _ _ h => h)
                      (fun _ _ h e => e.trans (h.mono e.size)) (fun t u a' b' hb h => ?_) (Below.refl _ _).drew ?_ ?_ ?_
                    · exact h
                    · intro t op ht hlt hop
                      simp only [Bool.or_eq_false_iff, beq_eq_false_iff_ne] at hlt
                      rcases (by omega : t = 0 ∨ t = 1 ∨ t = 2 ∨ t = 3 ∨ t = 4 ∨ t = 5 ∨ t = 6 ∨ t = 7 ∨ t = 8 ∨ t = 9 ∨ t = 10 ∨ t = 11 ∨ t = 12 ∨ t = 13 ∨ t = 14 ∨ t = 15 ∨ t = 16 ∨ t = 17) with rfl | rfl | rfl | rfl | rfl | rfl | rfl | rfl | rfl | rfl | rfl | rfl | rfl | rfl | rfl | rfl | rfl | rfl
                      all_goals simp only [List.getElem?_cons_zero, List.getElem?_cons_succ, Option.some.injEq] at hop
                      all_goals subst hop
                      all_goals intro a wx hE hag hdep
                      · have e0 := slot_eq (hag 14 rfl)
                        exact rel_pure _ rfl rfl (by simp [go_sem, e0])
                      · have e0 := slot_eq (hag 14 rfl)
                        exact rel_pure _ rfl rfl (by simp [go_sem, e0])
                      · have e0 := slot_eq (hdep ⟨1, .data⟩ (by simp) rfl)
                        exact rel_pure _ rfl rfl (by simp [go_sem, e0])
                      · have e0 := slot_eq (hdep ⟨2, .data⟩ (by simp) rfl)
                        exact rel_pure _ rfl rfl (by simp [go_sem, e0])
                      · have e0 := slot_eq (hdep ⟨3, .data⟩ (by simp) rfl)
                        have hq := (hpk.out _ hE)
                        exact rel_pure _ rfl rfl (by simp [go_sem, e0, hq])
                      · have e0 := slot_eq (hdep ⟨4, .data⟩ (by simp) rfl)
                        exact rel_pure _ rfl rfl (by simp [go_sem, e0])
                      · have e0 := slot_eq (hag 12 rfl)
                        exact rel_pure _ rfl rfl (by simp [go_sem, e0])
                      · have e0 := slot_eq (hdep ⟨6, .data⟩ (by simp) rfl)
                        have hq := (x12.keep hE).all.1
                        exact rel_pure _ rfl rfl (by simp [go_sem, e0, hq])
                      · have e0 := slot_eq (hag 13 rfl)
                        exact rel_pure _ rfl rfl (by simp [go_sem, e0])
                      · have e0 := slot_eq (hdep ⟨7, .data⟩ (by simp) rfl)
                        have e1 := slot_eq (hdep ⟨8, .data⟩ (by simp) rfl)
                        exact rel_pure _ rfl rfl (by simp [go_sem, e0, e1, hmi])
                      · have e0 := slot_eq (hdep ⟨9, .data⟩ (by simp) rfl)
                        exact rel_pure _ rfl rfl (by simp [go_sem, e0])
                      · have e0 := slot_eq (hdep ⟨10, .data⟩ (by simp) rfl)
                        have hq := (hqk.out _ hE)
                        exact rel_pure _ rfl rfl (by simp [go_sem, e0, hq])
                      · have e0 := slot_eq (hdep ⟨11, .data⟩ (by simp) rfl)
                        exact rel_pure _ rfl rfl (by simp [go_sem, e0])
                      · have e0 := slot_eq (hag 10 rfl)
                        exact rel_pure _ rfl rfl (by simp [go_sem, e0])
                      · have e0 := slot_eq (hdep ⟨5, .data⟩ (by simp) rfl)
                        have e1 := slot_eq (hdep ⟨12, .data⟩ (by simp) rfl)
                        have e2 := slot_eq (hdep ⟨13, .data⟩ (by simp) rfl)
                        refine rel_call (f := 35) (args := #[.float .f32 (floatOfInt .f32 px), .float .f32 (floatOfInt .f32 qx), .float .f32 0]) (run_go_call Try.func35 (by kernel_rfl) (by kernel_rfl) _ _ _ _ _ _ _ _ _ _ (by simp [Act.eval, e0, e1, e2])) rfl ?_
                        refine (num_LerpP hsm.out.1 hsm.out.2 HT.out wx).mono ?_
                        rintro e w' ⟨rfl, rfl⟩
                        exact ⟨_, rfl, rfl, Below.refl _ _⟩
                      · have e0 := slot_eq (hdep ⟨14, .data⟩ (by simp) rfl)
                        refine rel_call (f := 36) (args := #[.float .f32 (lerpV (floatOfInt .f32 px) (floatOfInt .f32 qx) 0), .int .i64 (-1048576), .int .i64 1048576]) (run_go_call Try.func36 (by kernel_rfl) (by kernel_rfl) _ _ _ _ _ _ _ _ _ _ (by simp [Act.eval, e0])) rfl ?_
                        refine (num_Near (lerpV_nn hsm.out.1 hsm.out.2 HT.out) wx).mono ?_
                        rintro e w' ⟨bq, rfl, rfl⟩
                        exact ⟨_, rfl, ⟨bq, rfl⟩, Below.refl _ _⟩
                      · obtain ⟨bq, e0⟩ := hdep ⟨15, .data⟩ (by simp) rfl
                        have e0 := slot_eq e0
                        exact rel_pure _ rfl ⟨bq, rfl⟩ (by simp [go_sem, e0])
                      · obtain ⟨bq, e0⟩ := hdep ⟨16, .data⟩ (by simp) rfl
                        have e0 := slot_eq e0
                        exact rel_pure _ rfl rfl (by simp [go_sem, e0])
                    · intro t op ht hlt hop a wx hE hdep
                      simp only [Bool.or_eq_true, beq_iff_eq] at hlt
                      rcases (by omega : t = 18 ∨ t = 19) with rfl | rfl
                      all_goals simp only [List.getElem?_cons_zero, List.getElem?_cons_succ, Option.some.injEq] at hop
                      all_goals subst hop
                      · obtain ⟨bq, e0⟩ := hdep ⟨16, .data⟩ (by simp) rfl
                        have e0 := slot_eq e0
                        exact ⟨rfl, _, ⟨bq, rfl⟩, fun u => by simp [go_sem, e0]⟩
                      · obtain ⟨bq, e0⟩ := hdep ⟨16, .data⟩ (by simp) rfl
                        have e0 := slot_eq e0
                        exact ⟨rfl, _, rfl, fun u => by simp [go_sem, e0]⟩
                    intro vs wy hE hvs _
                    have k0 : vs 0 = .pointer (some ⟨g, m * 2, none⟩) := hvs 0 (by omega)
                    have k17 : vs 17 = .int .i64 (mixI px qx 0) := hvs 17 (by omega)
                    simp only [List.drop_succ_cons, List.drop_zero, putAll, dstAt, List.getElem?_toArray, List.getElem?_cons_zero, List.getElem?_cons_succ, Option.bind_some, Act.put, List.setIfInBounds_toArray, List.set_cons_zero, List.set_cons_succ, k0, k17]
                    clear hvs k0 k17

                    replace c1 := (hE.cell (p := ⟨g, m * 2, none⟩) lg).trans c1
                    replace xg := xg.keep hE
                    replace y11 := y11.keep hE
                    replace x12 := x12.keep hE
                    replace x4 := x4.keep hE
                    replace B := B.trans (hE.mono hszB)
                    clear hE hpk hqk hsm u1 hszB q11 f11 l11 lg c2
                    obtain ⟨gq, gf, gl⟩ := xg.all
                    clear gq
                    go_upto_region 29 with fail
                    refine name_world ?_
                    intro wz hwz
                    have xg2 : Bx wz g 71 (cz.setIfInBounds (m * 2) (.int .i64 (mixI px qx 0))) := by rw [hwz]; exact xg.set _ _
                    have c2 : wz.cell? ⟨g, m * 2 + 1, none⟩ = some (.int .i64 py) := by rw [xg2.all.1 (m * 2 + 1), Array.getElem?_setIfInBounds_ne (by omega)]; exact S2.out
                    replace y11 : Bx wz p11 25 #[.int .i64 akind, .float .f32 (lerpV aX bX 0), .float .f32 (lerpV aY bY 0), .float .f32 (lerpV aWd bWd 0), .float .f32 (lerpV aH bH 0), .float .f32 (lerpV aS bS 0), .slice (some ⟨g, 0, none⟩) apn vc, .bool aout] := by rw [hwz]; exact (Bx.other y11 _ _ (by first | omega | (simp; done) | (simp; omega)))
                    replace x12 : Bx wz p12 25 #[.int .i64 bkind, .float .f32 bX, .float .f32 bY, .float .f32 bWd, .float .f32 bH, .float .f32 bS, .slice (some ⟨bb, bo, none⟩) apn bpc, .bool bout] := by rw [hwz]; exact (Bx.other x12 _ _ (by first | omega | (simp; done) | (simp; omega)))
                    replace x4 : Bx wz W.heap.size 25 #[.int .i64 0, .float .f32 0, .float .f32 0, .float .f32 0, .float .f32 0, .float .f32 0, .slice none 0 0, .bool false] := by rw [hwz]; exact (Bx.other x4 _ _ (by first | omega | (simp; done) | (simp; omega)))
                    replace B : Below W.heap.size W wz := by rw [hwz]; exact bput (by omega) B
                    have u2 := (B.cell (p := ⟨bb, bo + m * 2 + 1, none⟩) hbbl).trans HU2.out
                    clear hwz xg gf gl c1
                    have hszB := B.size
                    have lg := xg2.lt
                    have hpk : Hid (∀ w', Below wz.heap.size wz w' → w'.cell? ⟨g, m * 2 + 1, none⟩ = some (.int .i64 py)) := Lib.hid fun w' h => (h.cell (p := ⟨g, m * 2 + 1, none⟩) lg).trans c2
                    have hqk : Hid (∀ w', Below wz.heap.size wz w' → w'.cell? ⟨bb, bo + m * 2 + 1, none⟩ = some (.int .i64 qy)) := Lib.hid fun w' h => (h.cell (p := ⟨bb, bo + m * 2 + 1, none⟩) (by show bb < wz.heap.size; omega)).trans u2
                    have hsm : Hid (SmB 20 (floatOfInt .f32 py) ∧ SmB 20 (floatOfInt .f32 qy)) := Lib.hid ⟨ofInt_smb r1.2.2.1 r1.2.2.2, ofInt_smb r2.2.2.1 r2.2.2.2⟩
                    refine wp_region_late 20 (fun q => q == 18 || q == 19) (fun q u w' => if q = 15 then ∃ bq, u = .tuple #[.int .i64 (mixI py qy 0), .bool bq, .int .i64 0] else if q = 16 then ∃ bq, u = .tuple #[.int .i64 (mixI py qy 0), .bool bq, .int .i64 0] else if q = 18 then ∃ bq, u = .bool bq else u = [.pointer (some ⟨g, m * 2, none⟩), .pointer (some ⟨g, m * 2, none⟩), .pointer (some ⟨g, m * 2, none⟩), .pointer (some ⟨g, m * 2 + 1, none⟩), .int .i64 py, .float .f32 (floatOfInt .f32 py), .pointer (some ⟨p12, 6, none⟩), .slice (some ⟨bb, bo, none⟩) apn bpc, .int .i64 (m : Int), .pointer (some ⟨bb, bo + m * 2, none⟩), .pointer (some ⟨bb, bo + m * 2 + 1, none⟩), .int .i64 qy, .float .f32 (floatOfInt .f32 qy), .float .f32 0, .float .f32 (lerpV (floatOfInt .f32 py) (floatOfInt .f32 qy) 0), undef, undef, .int .i64 (mixI py qy 0), undef, .int .i64 0].getD q undef) (fun _ => false) (fun w' => Below wz.heap.size wz w') (by kernel_rfl) (by kernel_rfl) (fun _ _ _ _ _ h => h)
                      (fun _ _ h e => e.trans (h.mono e.size)) (fun t u a' b' hb h => ?_) (Below.refl _ _).drew ?_ ?_ ?_
                    · exact h
                    · intro t op ht hlt hop
                      simp only [Bool.or_eq_false_iff, beq_eq_false_iff_ne] at hlt
                      rcases (by omega : t = 0 ∨ t = 1 ∨ t = 2 ∨ t = 3 ∨ t = 4 ∨ t = 5 ∨ t = 6 ∨ t = 7 ∨ t = 8 ∨ t = 9 ∨ t = 10 ∨ t = 11 ∨ t = 12 ∨ t = 13 ∨ t = 14 ∨ t = 15 ∨ t = 16 ∨ t = 17) with rfl | rfl | rfl | rfl | rfl | rfl | rfl | rfl | rfl | rfl | rfl | rfl | rfl | rfl | rfl | rfl | rfl | rfl
                      all_goals simp only [List.getElem?_cons_zero, List.getElem?_cons_succ, Option.some.injEq] at hop
                      all_goals subst hop
                      all_goals intro a wx hE hag hdep
                      · have e0 := slot_eq (hag 14 rfl)
                        exact rel_pure _ rfl rfl (by simp [go_sem, e0])
                      · have e0 := slot_eq (hag 14 rfl)
                        exact rel_pure _ rfl rfl (by simp [go_sem, e0])
                      · have e0 := slot_eq (hdep ⟨1, .data⟩ (by simp) rfl)
                        exact rel_pure _ rfl rfl (by simp [go_sem, e0])
                      · have e0 := slot_eq (hdep ⟨2, .data⟩ (by simp) rfl)
                        exact rel_pure _ rfl rfl (by simp [go_sem, e0])
                      · have e0 := slot_eq (hdep ⟨3, .data⟩ (by simp) rfl)
                        have hq := (hpk.out _ hE)
                        exact rel_pure _ rfl rfl (by simp [go_sem, e0, hq])
                      · have e0 := slot_eq (hdep ⟨4, .data⟩ (by simp) rfl)
                        exact rel_pure _ rfl rfl (by simp [go_sem, e0])
                      · have e0 := slot_eq (hag 12 rfl)
                        exact rel_pure _ rfl rfl (by simp [go_sem, e0])
                      · have e0 := slot_eq (hdep ⟨6, .data⟩ (by simp) rfl)
                        have hq := (x12.keep hE).all.1
                        exact rel_pure _ rfl rfl (by simp [go_sem, e0, hq])
                      · have e0 := slot_eq (hag 13 rfl)
                        exact rel_pure _ rfl rfl (by simp [go_sem, e0])
                      · have e0 := slot_eq (hdep ⟨7, .data⟩ (by simp) rfl)
                        have e1 := slot_eq (hdep ⟨8, .data⟩ (by simp) rfl)
                        exact rel_pure _ rfl rfl (by simp [go_sem, e0, e1, hmi])
                      · have e0 := slot_eq (hdep ⟨9, .data⟩ (by simp) rfl)
                        exact rel_pure _ rfl rfl (by simp [go_sem, e0])
                      · have e0 := slot_eq (hdep ⟨10, .data⟩ (by simp) rfl)
                        have hq := (hqk.out _ hE)
                        exact rel_pure _ rfl rfl (by simp [go_sem, e0, hq])
                      · have e0 := slot_eq (hdep ⟨11, .data⟩ (by simp) rfl)
                        exact rel_pure _ rfl rfl (by simp [go_sem, e0])
                      · have e0 := slot_eq (hag 10 rfl)
                        exact rel_pure _ rfl rfl (by simp [go_sem, e0])
                      · have e0 := slot_eq (hdep ⟨5, .data⟩ (by simp) rfl)
                        have e1 := slot_eq (hdep ⟨12, .data⟩ (by simp) rfl)
                        have e2 := slot_eq (hdep ⟨13, .data⟩ (by simp) rfl)
                        refine rel_call (f := 35) (args := #[.float .f32 (floatOfInt .f32 py), .float .f32 (floatOfInt .f32 qy), .float .f32 0]) (run_go_call Try.func35 (by kernel_rfl) (by kernel_rfl) _ _ _ _ _ _ _ _ _ _ (by simp [Act.eval, e0, e1, e2])) rfl ?_
                        refine (num_LerpP hsm.out.1 hsm.out.2 HT.out wx).mono ?_
                        rintro e w' ⟨rfl, rfl⟩
                        exact ⟨_, rfl, rfl, Below.refl _ _⟩
                      · have e0 := slot_eq (hdep ⟨14, .data⟩ (by simp) rfl)
                        refine rel_call (f := 36) (args := #[.float .f32 (lerpV (floatOfInt .f32 py) (floatOfInt .f32 qy) 0), .int .i64 (-1048576), .int .i64 1048576]) (run_go_call Try.func36 (by kernel_rfl) (by kernel_rfl) _ _ _ _ _ _ _ _ _ _ (by simp [Act.eval, e0])) rfl ?_
                        refine (num_Near (lerpV_nn hsm.out.1 hsm.out.2 HT.out) wx).mono ?_
                        rintro e w' ⟨bq, rfl, rfl⟩
                        exact ⟨_, rfl, ⟨bq, rfl⟩, Below.refl _ _⟩
                      · obtain ⟨bq, e0⟩ := hdep ⟨15, .data⟩ (by simp) rfl
                        have e0 := slot_eq e0
                        exact rel_pure _ rfl ⟨bq, rfl⟩ (by simp [go_sem, e0])
                      · obtain ⟨bq, e0⟩ := hdep ⟨16, .data⟩ (by simp) rfl
                        have e0 := slot_eq e0
                        exact rel_pure _ rfl rfl (by simp [go_sem, e0])
                    · intro t op ht hlt hop a wx hE hdep
                      simp only [Bool.or_eq_true, beq_iff_eq] at hlt
                      rcases (by omega : t = 18 ∨ t = 19) with rfl | rfl
                      all_goals simp only [List.getElem?_cons_zero, List.getElem?_cons_succ, Option.some.injEq] at hop
                      all_goals subst hop
                      · obtain ⟨bq, e0⟩ := hdep ⟨16, .data⟩ (by simp) rfl
                        have e0 := slot_eq e0
                        exact ⟨rfl, _, ⟨bq, rfl⟩, fun u => by simp [go_sem, e0]⟩
                      · obtain ⟨bq, e0⟩ := hdep ⟨16, .data⟩ (by simp) rfl
                        have e0 := slot_eq e0
                        exact ⟨rfl, _, rfl, fun u => by simp [go_sem, e0]⟩
                    intro vs wy hE hvs _
                    have k0 : vs 0 = .pointer (some ⟨g, m * 2, none⟩) := hvs 0 (by omega)
                    have k17 : vs 17 = .int .i64 (mixI py qy 0) := hvs 17 (by omega)
                    simp only [List.drop_succ_cons, List.drop_zero, putAll, dstAt, List.getElem?_toArray, List.getElem?_cons_zero, List.getElem?_cons_succ, Option.bind_some, Act.put, List.setIfInBounds_toArray, List.set_cons_zero, List.set_cons_succ, k0, k17]
                    clear hvs k0 k17

                    replace xg2 := xg2.keep hE
                    replace y11 := y11.keep hE
                    replace x12 := x12.keep hE
                    replace x4 := x4.keep hE
                    replace B := B.trans (hE.mono hszB)
                    replace c2 := (hE.cell (p := ⟨g, m * 2 + 1, none⟩) lg).trans c2
                    clear hE hpk hqk hsm u2 hszB lg
                    obtain ⟨gq, gf, gl⟩ := xg2.all
                    clear gq
                    go_wp2_with fail
                    go_roundw
                    case rel => exact ⟨m + 1, _, by omega, by go_num, S3.out, xg2.set _ _, (Bx.other y11 _ _ (by first | omega | (simp; done) | (simp; omega))), (Bx.other x12 _ _ (by first | omega | (simp; done) | (simp; omega))), (Bx.other x4 _ _ (by first | omega | (simp; done) | (simp; omega))), bput (by omega) B⟩
                    case measure => simp [intOf]; omega
                  · obtain rfl : m = apn := by omega
                    have hfull := hz
                    rw [Hapn.out] at hfull
                    have hP := Lib.hid (hfull.full (mixP_len _ _ _))
                    clear hz hfull
                    obtain ⟨q4, f4, l4⟩ := x4.all
                    obtain ⟨q11, f11, l11⟩ := y11.all
                    go_wp2_with fail
                    refine bodyPost_ret (v := .tuple #[.agg #[.int .i64 akind, .float .f32 (lerpV aX bX 0), .float .f32 (lerpV aY bY 0), .float .f32 (lerpV aWd bWd 0), .float .f32 (lerpV aH bH 0), .float .f32 (lerpV aS bS 0), .slice (some ⟨g, 0, none⟩) m vc, .bool aout], .int .i64 0]) (by simp [results, Try.results11, go_sem, q4]) rfl ⟨_, Hidx.out, some ⟨g, 0, none⟩, vc, by rw [Hwin.out]; show _ = Ending.returned (.tuple #[.agg #[_, _, _, _, _, _, .slice _ (mixP aps bps 0).length _, _], _]); rw [mixP_len, ← Hapn.out], ?_, bput (by omega) (bput (by omega) (bput (by omega) (bput (by omega) (bput (by omega) (bput (by omega) (bput (by omega) (bput (by omega) (B))))))))⟩
                    rw [Hwin.out]
                    show SlP _ (.slice (some ⟨g, 0, none⟩) (mixP aps bps 0).length vc) (mixP aps bps 0)
                    exact hP.out.slP ((Bx.other (Bx.other (Bx.other (Bx.other (Bx.other (Bx.other (Bx.other (Bx.other xg _ _ (by first | omega | (simp; done) | (simp; omega))) _ _ (by first | omega | (simp; done) | (simp; omega))) _ _ (by first | omega | (simp; done) | (simp; omega))) _ _ (by first | omega | (simp; done) | (simp; omega))) _ _ (by first | omega | (simp; done) | (simp; omega))) _ _ (by first | omega | (simp; done) | (simp; omega))) _ _ (by first | omega | (simp; done) | (simp; omega))) _ _ (by first | omega | (simp; done) | (simp; omega)))) (by rw [mixP_len]; unfold maxLen; omega) vc
            · have hT2 : T = fop .quo (floatOfInt .f32 (f - afr)) (floatOfInt .f32 (bfr - afr)) := by rw [hT, shareT, if_neg he3, if_neg he1]
              have ee1 : (aease == 1) = false := beq_eq_false_iff_ne.2 he1
              generalize fop .quo (floatOfInt .f32 (f - afr)) (floatOfInt .f32 (bfr - afr)) = t0 at *
              clear hT hqn
              subst hT2
              go_upto_region 14 with fail
              go_upto_region 19 with fail
              refine name_world ?_
              intro w5 hw5
              have hb5 : Below w3.heap.size w3 w5 := by first | exact b_eqd2 hw5 (Below.refl _ _) | (rw [hw5]; exact Below.refl _ _)
              replace x4 := x4.keep hb5
              replace x8 := x8.keep hb5
              replace x9 := x9.keep hb5
              replace B := bcall B hb5
              clear hb5 hw5 q8 f8 l8 q9 f9 l9
              obtain ⟨q8, f8, l8⟩ := x8.all
              go_wp2_with fail
              refine (key_cloned akind aX aY aWd aH aS (.slice apa apn apc) aps aout _ (by omega) (Hasp.out.keep B)).mono ?_
              rintro e w6 ⟨v', rfl, hcp, hb⟩
              have hbk := Lib.hid hb
              rcases hcp with ⟨haps, va, vc, rfl⟩ | ⟨hne, g, vc, cs, rfl, hBg, xg, hvc, hH0⟩
              · subst haps
                obtain rfl : apn = 0 := Hapn.out
                have lx9 := x9.lt
                have lx4 := x4.lt
                have hsz6 := hb.size
                replace x4 := x4.keep hb
                replace B := bcall B hb
                clear hb x8 q8 f8 l8
                replace x9 := x9.keep hbk.out
                obtain ⟨q9, f9, l9⟩ := x9.all
                go_upto_region 20 with fail
                refine name_world ?_
                intro w7 hw7
                have x11 : Bx w7 w6.heap.size 25 #[.int .i64 akind, .float .f32 aX, .float .f32 aY, .float .f32 aWd, .float .f32 aH, .float .f32 aS, .slice va 0 vc, .bool aout] := by rw [hw7]; exact Bx.new _ _ _
                have hb7 := below_eqK hw7
                replace x4 := x4.keep hb7
                replace x9 := x9.keep hb7


                have hp11 : W.heap.size < w6.heap.size := by omega
                replace B := bcall B hb7
                clear hb7 hw7 q9 f9 l9 hbk
                generalize w6.heap.size = p11 at *
                obtain ⟨q9, f9, l9⟩ := x9.all
                go_upto_region 21 with fail
                refine name_world ?_
                intro wa hwa
                have x12 : Bx wa w7.heap.size 25 #[.int .i64 bkind, .float .f32 bX, .float .f32 bY, .float .f32 bWd, .float .f32 bH, .float .f32 bS, .slice bpa 0 bpc, .bool bout] := by rw [hwa]; exact Bx.new _ _ _
                have hb8 := below_eqK hwa
                have hp12 : p11 < w7.heap.size := x11.lt
                replace x4 := x4.keep hb8
                replace x11 := x11.keep hb8

                replace B := bcall B hb8
                clear hb8 hwa q9 f9 l9 x9
                generalize w7.heap.size = p12 at *
                refine wp_region_grd 13 (fun _ => false) (fun q u w' => u = [.pointer (some ⟨p11, 1, none⟩), .float .f32 aX, .pointer (some ⟨p12, 1, none⟩), .float .f32 bX, .float .f32 T, .float .f32 (lerpV aX bX T), .pointer (some ⟨p11, 2, none⟩), .float .f32 aY, .pointer (some ⟨p12, 2, none⟩), .float .f32 bY, .float .f32 T, .float .f32 (lerpV aY bY T), .pointer (some ⟨p11, 1, none⟩)].getD q undef) (fun _ => false) (fun w' => Below wa.heap.size wa w') (by kernel_rfl) (by kernel_rfl) (fun _ _ _ _ _ h => h)
                  (fun _ _ h e => e.trans (h.mono e.size)) (fun t u a' b' hb h => ?_) (Below.refl _ _).drew ?_ ?_ ?_
                · exact h
                · intro t op ht hlt hop
                  clear hlt
                  rcases (by omega : t = 0 ∨ t = 1 ∨ t = 2 ∨ t = 3 ∨ t = 4 ∨ t = 5 ∨ t = 6 ∨ t = 7 ∨ t = 8 ∨ t = 9 ∨ t = 10 ∨ t = 11 ∨ t = 12) with rfl | rfl | rfl | rfl | rfl | rfl | rfl | rfl | rfl | rfl | rfl | rfl | rfl
                  all_goals simp only [List.getElem?_cons_zero, List.getElem?_cons_succ, Option.some.injEq] at hop
                  all_goals subst hop
                  all_goals intro a wx hE hag hdep
                  · refine grd_none rfl ?_
                    have e0 := slot_eq (hag 11 rfl)
                    exact rel_pure _ rfl rfl (by simp [go_sem, e0])
                  · refine grd_none rfl ?_
                    have e0 := slot_eq (hdep ⟨0, .data⟩ (by simp) rfl)
                    have hq := (x11.keep hE).all.1
                    exact rel_pure _ rfl rfl (by simp [go_sem, e0, hq])
                  · refine grd_none rfl ?_
                    have e0 := slot_eq (hag 12 rfl)
                    exact rel_pure _ rfl rfl (by simp [go_sem, e0])
                  · refine grd_none rfl ?_
                    have e0 := slot_eq (hdep ⟨2, .data⟩ (by simp) rfl)
                    have hq := (x12.keep hE).all.1
                    exact rel_pure _ rfl rfl (by simp [go_sem, e0, hq])
                  · refine grd_none rfl ?_
                    have e0 := slot_eq (hag 10 rfl)
                    exact rel_pure _ rfl rfl (by simp [go_sem, e0])
                  · refine grd_none rfl ?_
                    have e0 := slot_eq (hdep ⟨1, .data⟩ (by simp) rfl)
                    have e1 := slot_eq (hdep ⟨3, .data⟩ (by simp) rfl)
                    have e2 := slot_eq (hdep ⟨4, .data⟩ (by simp) rfl)
                    refine rel_call (f := 35) (args := #[.float .f32 aX, .float .f32 bX, .float .f32 T]) (run_go_call Try.func35 (by kernel_rfl) (by kernel_rfl) _ _ _ _ _ _ _ _ _ _ (by simp [Act.eval, e0, e1, e2])) rfl ?_
                    refine (num_LerpP MX.out.1 MX.out.2 HT.out wx).mono ?_
                    rintro e w' ⟨rfl, rfl⟩
                    exact ⟨_, rfl, rfl, Below.refl _ _⟩
                  · refine grd_none rfl ?_
                    have e0 := slot_eq (hag 11 rfl)
                    exact rel_pure _ rfl rfl (by simp [go_sem, e0])
                  · refine grd_none rfl ?_
                    have e0 := slot_eq (hdep ⟨6, .data⟩ (by simp) rfl)
                    have hq := (x11.keep hE).all.1
                    exact rel_pure _ rfl rfl (by simp [go_sem, e0, hq])
                  · refine grd_none rfl ?_
                    have e0 := slot_eq (hag 12 rfl)
                    exact rel_pure _ rfl rfl (by simp [go_sem, e0])
                  · refine grd_none rfl ?_
                    have e0 := slot_eq (hdep ⟨8, .data⟩ (by simp) rfl)
                    have hq := (x12.keep hE).all.1
                    exact rel_pure _ rfl rfl (by simp [go_sem, e0, hq])
                  · refine grd_none rfl ?_
                    have e0 := slot_eq (hag 10 rfl)
                    exact rel_pure _ rfl rfl (by simp [go_sem, e0])
                  · refine grd_none rfl ?_
                    have e0 := slot_eq (hdep ⟨7, .data⟩ (by simp) rfl)
                    have e1 := slot_eq (hdep ⟨9, .data⟩ (by simp) rfl)
                    have e2 := slot_eq (hdep ⟨10, .data⟩ (by simp) rfl)
                    refine rel_call (f := 35) (args := #[.float .f32 aY, .float .f32 bY, .float .f32 T]) (run_go_call Try.func35 (by kernel_rfl) (by kernel_rfl) _ _ _ _ _ _ _ _ _ _ (by simp [Act.eval, e0, e1, e2])) rfl ?_
                    refine (num_LerpP MY.out.1 MY.out.2 HT.out wx).mono ?_
                    rintro e w' ⟨rfl, rfl⟩
                    exact ⟨_, rfl, rfl, Below.refl _ _⟩
                  · refine grd_none rfl ?_
                    have e0 := slot_eq (hag 11 rfl)
                    exact rel_pure _ rfl rfl (by simp [go_sem, e0])
                · intro t op ht hlt; cases hlt
                intro vs wy hE hvs _
                have k5 : vs 5 = .float .f32 (lerpV aX bX T) := hvs 5 (by omega)
                have k11 : vs 11 = .float .f32 (lerpV aY bY T) := hvs 11 (by omega)
                have k12 : vs 12 = .pointer (some ⟨p11, 1, none⟩) := hvs 12 (by omega)
                simp only [List.drop_succ_cons, List.drop_zero, putAll, dstAt, List.getElem?_toArray, List.getElem?_cons_zero, List.getElem?_cons_succ, Option.bind_some, Act.put, List.setIfInBounds_toArray, List.set_cons_zero, List.set_cons_succ, k5, k11, k12]
                clear hvs k5 k11 k12
                replace x4 := x4.keep hE
                replace x11 := x11.keep hE
                replace x12 := x12.keep hE
                have hszB := B.size
                replace B := B.trans (hE.mono hszB)
                clear hE hszB
                obtain ⟨q11, f11, l11⟩ := x11.all
                go_upto_region 22 with fail
                refine name_world ?_
                intro wb hwb
                have y11 : Bx wb p11 25 #[.int .i64 akind, .float .f32 (lerpV aX bX T), .float .f32 (lerpV aY bY T), .float .f32 aWd, .float .f32 aH, .float .f32 aS, .slice va 0 vc, .bool aout] := by rw [hwb]; exact (x11.set 1 _).set 2 _
                replace x4 : Bx wb W.heap.size 25 #[.int .i64 0, .float .f32 0, .float .f32 0, .float .f32 0, .float .f32 0, .float .f32 0, .slice none 0 0, .bool false] := by rw [hwb]; exact (Bx.other (Bx.other x4 _ _ (by first | omega | (simp; done) | (simp; omega))) _ _ (by first | omega | (simp; done) | (simp; omega)))
                replace x12 : Bx wb p12 25 #[.int .i64 bkind, .float .f32 bX, .float .f32 bY, .float .f32 bWd, .float .f32 bH, .float .f32 bS, .slice bpa 0 bpc, .bool bout] := by rw [hwb]; exact (Bx.other (Bx.other x12 _ _ (by first | omega | (simp; done) | (simp; omega))) _ _ (by first | omega | (simp; done) | (simp; omega)))

                replace B : Below W.heap.size W wb := by rw [hwb]; exact bput (by omega) (bput (by omega) B)
                clear hwb q11 f11 l11 x11
                have x11 := y11
                clear y11
                refine wp_region_grd 13 (fun _ => false) (fun q u w' => u = [.pointer (some ⟨p11, 3, none⟩), .float .f32 aWd, .pointer (some ⟨p12, 3, none⟩), .float .f32 bWd, .float .f32 T, .float .f32 (lerpV aWd bWd T), .pointer (some ⟨p11, 4, none⟩), .float .f32 aH, .pointer (some ⟨p12, 4, none⟩), .float .f32 bH, .float .f32 T, .float .f32 (lerpV aH bH T), .pointer (some ⟨p11, 3, none⟩)].getD q undef) (fun _ => false) (fun w' => Below wb.heap.size wb w') (by kernel_rfl) (by kernel_rfl) (fun _ _ _ _ _ h => h)
                  (fun _ _ h e => e.trans (h.mono e.size)) (fun t u a' b' hb h => ?_) (Below.refl _ _).drew ?_ ?_ ?_
                · exact h
                · intro t op ht hlt hop
                  clear hlt
                  rcases (by omega : t = 0 ∨ t = 1 ∨ t = 2 ∨ t = 3 ∨ t = 4 ∨ t = 5 ∨ t = 6 ∨ t = 7 ∨ t = 8 ∨ t = 9 ∨ t = 10 ∨ t = 11 ∨ t = 12) with rfl | rfl | rfl | rfl | rfl | rfl | rfl | rfl | rfl | rfl | rfl | rfl | rfl
                  all_goals simp only [List.getElem?_cons_zero, List.getElem?_cons_succ, Option.some.injEq] at hop
                  all_goals subst hop
                  all_goals intro a wx hE hag hdep
                  · refine grd_none rfl ?_
                    have e0 := slot_eq (hag 11 rfl)
                    exact rel_pure _ rfl rfl (by simp [go_sem, e0])
                  · refine grd_none rfl ?_
                    have e0 := slot_eq (hdep ⟨0, .data⟩ (by simp) rfl)
                    have hq := (x11.keep hE).all.1
                    exact rel_pure _ rfl rfl (by simp [go_sem, e0, hq])
                  · refine grd_none rfl ?_
                    have e0 := slot_eq (hag 12 rfl)
                    exact rel_pure _ rfl rfl (by simp [go_sem, e0])
                  · refine grd_none rfl ?_
                    have e0 := slot_eq (hdep ⟨2, .data⟩ (by simp) rfl)
                    have hq := (x12.keep hE).all.1
                    exact rel_pure _ rfl rfl (by simp [go_sem, e0, hq])
                  · refine grd_none rfl ?_
                    have e0 := slot_eq (hag 10 rfl)
                    exact rel_pure _ rfl rfl (by simp [go_sem, e0])
                  · refine grd_none rfl ?_
                    have e0 := slot_eq (hdep ⟨1, .data⟩ (by simp) rfl)
                    have e1 := slot_eq (hdep ⟨3, .data⟩ (by simp) rfl)
                    have e2 := slot_eq (hdep ⟨4, .data⟩ (by simp) rfl)
                    refine rel_call (f := 35) (args := #[.float .f32 aWd, .float .f32 bWd, .float .f32 T]) (run_go_call Try.func35 (by kernel_rfl) (by kernel_rfl) _ _ _ _ _ _ _ _ _ _ (by simp [Act.eval, e0, e1, e2])) rfl ?_
                    refine (num_LerpP MW.out.1 MW.out.2 HT.out wx).mono ?_
                    rintro e w' ⟨rfl, rfl⟩
                    exact ⟨_, rfl, rfl, Below.refl _ _⟩
                  · refine grd_none rfl ?_
                    have e0 := slot_eq (hag 11 rfl)
                    exact rel_pure _ rfl rfl (by simp [go_sem, e0])
                  · refine grd_none rfl ?_
                    have e0 := slot_eq (hdep ⟨6, .data⟩ (by simp) rfl)
                    have hq := (x11.keep hE).all.1
                    exact rel_pure _ rfl rfl (by simp [go_sem, e0, hq])
                  · refine grd_none rfl ?_
                    have e0 := slot_eq (hag 12 rfl)
                    exact rel_pure _ rfl rfl (by simp [go_sem, e0])
                  · refine grd_none rfl ?_
                    have e0 := slot_eq (hdep ⟨8, .data⟩ (by simp) rfl)
                    have hq := (x12.keep hE).all.1
                    exact rel_pure _ rfl rfl (by simp [go_sem, e0, hq])
                  · refine grd_none rfl ?_
                    have e0 := slot_eq (hag 10 rfl)
                    exact rel_pure _ rfl rfl (by simp [go_sem, e0])
                  · refine grd_none rfl ?_
                    have e0 := slot_eq (hdep ⟨7, .data⟩ (by simp) rfl)
                    have e1 := slot_eq (hdep ⟨9, .data⟩ (by simp) rfl)
                    have e2 := slot_eq (hdep ⟨10, .data⟩ (by simp) rfl)
                    refine rel_call (f := 35) (args := #[.float .f32 aH, .float .f32 bH, .float .f32 T]) (run_go_call Try.func35 (by kernel_rfl) (by kernel_rfl) _ _ _ _ _ _ _ _ _ _ (by simp [Act.eval, e0, e1, e2])) rfl ?_
                    refine (num_LerpP MH.out.1 MH.out.2 HT.out wx).mono ?_
                    rintro e w' ⟨rfl, rfl⟩
                    exact ⟨_, rfl, rfl, Below.refl _ _⟩
                  · refine grd_none rfl ?_
                    have e0 := slot_eq (hag 11 rfl)
                    exact rel_pure _ rfl rfl (by simp [go_sem, e0])
                · intro t op ht hlt; cases hlt
                intro vs wy hE hvs _
                have k5 : vs 5 = .float .f32 (lerpV aWd bWd T) := hvs 5 (by omega)
                have k11 : vs 11 = .float .f32 (lerpV aH bH T) := hvs 11 (by omega)
                have k12 : vs 12 = .pointer (some ⟨p11, 3, none⟩) := hvs 12 (by omega)
                simp only [List.drop_succ_cons, List.drop_zero, putAll, dstAt, List.getElem?_toArray, List.getElem?_cons_zero, List.getElem?_cons_succ, Option.bind_some, Act.put, List.setIfInBounds_toArray, List.set_cons_zero, List.set_cons_succ, k5, k11, k12]
                clear hvs k5 k11 k12
                replace x4 := x4.keep hE
                replace x11 := x11.keep hE
                replace x12 := x12.keep hE
                have hszB := B.size
                replace B := B.trans (hE.mono hszB)
                clear hE hszB
                obtain ⟨q11, f11, l11⟩ := x11.all
                go_upto_region 23 with fail
                refine name_world ?_
                intro wc hwc
                have y11 : Bx wc p11 25 #[.int .i64 akind, .float .f32 (lerpV aX bX T), .float .f32 (lerpV aY bY T), .float .f32 (lerpV aWd bWd T), .float .f32 (lerpV aH bH T), .float .f32 aS, .slice va 0 vc, .bool aout] := by rw [hwc]; exact (x11.set 3 _).set 4 _
                replace x4 : Bx wc W.heap.size 25 #[.int .i64 0, .float .f32 0, .float .f32 0, .float .f32 0, .float .f32 0, .float .f32 0, .slice none 0 0, .bool false] := by rw [hwc]; exact (Bx.other (Bx.other x4 _ _ (by first | omega | (simp; done) | (simp; omega))) _ _ (by first | omega | (simp; done) | (simp; omega)))
                replace x12 : Bx wc p12 25 #[.int .i64 bkind, .float .f32 bX, .float .f32 bY, .float .f32 bWd, .float .f32 bH, .float .f32 bS, .slice bpa 0 bpc, .bool bout] := by rw [hwc]; exact (Bx.other (Bx.other x12 _ _ (by first | omega | (simp; done) | (simp; omega))) _ _ (by first | omega | (simp; done) | (simp; omega)))

                replace B : Below W.heap.size W wc := by rw [hwc]; exact bput (by omega) (bput (by omega) B)
                clear hwc q11 f11 l11 x11
                have x11 := y11
                clear y11
                obtain ⟨q11, f11, l11⟩ := x11.all
                obtain ⟨q12, f12, l12⟩ := x12.all
                go_wp2_with fail
                refine (num_LerpP MS.out.1 MS.out.2 HT.out _).mono ?_
                rintro e wd ⟨rfl, rfl⟩
                go_upto_region 24 with fail
                refine name_world ?_
                intro wd hwd
                have y11 : Bx wd p11 25 #[.int .i64 akind, .float .f32 (lerpV aX bX T), .float .f32 (lerpV aY bY T), .float .f32 (lerpV aWd bWd T), .float .f32 (lerpV aH bH T), .float .f32 (lerpV aS bS T), .slice va 0 vc, .bool aout] := by rw [hwd]; exact x11.set 5 _
                replace x4 : Bx wd W.heap.size 25 #[.int .i64 0, .float .f32 0, .float .f32 0, .float .f32 0, .float .f32 0, .float .f32 0, .slice none 0 0, .bool false] := by rw [hwd]; exact (Bx.other x4 _ _ (by first | omega | (simp; done) | (simp; omega)))
                replace x12 : Bx wd p12 25 #[.int .i64 bkind, .float .f32 bX, .float .f32 bY, .float .f32 bWd, .float .f32 bH, .float .f32 bS, .slice bpa 0 bpc, .bool bout] := by rw [hwd]; exact (Bx.other x12 _ _ (by first | omega | (simp; done) | (simp; omega)))

                replace B : Below W.heap.size W wd := by rw [hwd]; exact bput (by omega) B
                clear hwd q11 f11 l11 q12 f12 l12 x11
                obtain ⟨q11, f11, l11⟩ := y11.all
                go_wp2_with fail
                go_loopw [128] (fun i wr => i = .int .i64 0 ∧ Bx wr p11 25 #[.int .i64 akind, .float .f32 (lerpV aX bX T), .float .f32 (lerpV aY bY T), .float .f32 (lerpV aWd bWd T), .float .f32 (lerpV aH bH T), .float .f32 (lerpV aS bS T), .slice va 0 vc, .bool aout] ∧ Bx wr W.heap.size 25 #[.int .i64 0, .float .f32 0, .float .f32 0, .float .f32 0, .float .f32 0, .float .f32 0, .slice none 0 0, .bool false] ∧ Below W.heap.size W wr) (fun i _ => (intOf i).toNat)
                case atStart => exact ⟨rfl, y11, x4, B⟩
                case round =>
                  clear y11 x12 x4 B q11 f11 l11
                  obtain ⟨rfl, y11, x4, B⟩ := hrel
                  obtain ⟨q4, f4, l4⟩ := x4.all
                  obtain ⟨q11, f11, l11⟩ := y11.all
                  go_wp2_with fail
                  refine bodyPost_ret (v := .tuple #[.agg #[.int .i64 akind, .float .f32 (lerpV aX bX T), .float .f32 (lerpV aY bY T), .float .f32 (lerpV aWd bWd T), .float .f32 (lerpV aH bH T), .float .f32 (lerpV aS bS T), .slice va 0 vc, .bool aout], .int .i64 0]) (by simp [results, Try.results11, go_sem, q4]) rfl ⟨_, Hidx.out, va, vc, by rw [Hwin.out]; rfl, ?_, bput (by omega) (bput (by omega) (bput (by omega) (bput (by omega) (bput (by omega) (bput (by omega) (bput (by omega) (bput (by omega) (B))))))))⟩
                  rw [Hwin.out]
                  exact ⟨va, vc, rfl, by show (0 : Nat) ≤ _; omega, .inl rfl⟩
              · have hgl : g < w6.heap.size := xg.lt
                have hH := Lib.hid hH0
                clear hH0
                rw [← Hapn.out]
                obtain ⟨bb, bo, rfl, hbbl, hbp0⟩ : ∃ bb bo, bpa = some ⟨bb, bo, none⟩ ∧ bb < W.heap.size ∧ ∀ k, k < bps.length → PtAt W bb (bo + k * 2) (bps.getD k default) := by
                  obtain ⟨a1, c1, h1, _, h2⟩ := Hbsp.out
                  rcases h2 with h2 | ⟨bb, bo, h3, h4, h5⟩
                  · exfalso
                    have := HPL.out
                    rw [h2] at this
                    exact hne (List.eq_nil_of_length_eq_zero this.symm)
                  · injection h1 with h1
                    exact ⟨bb, bo, h1.trans h3, h4, h5⟩
                have hbp := Lib.hid hbp0
                clear hbp0
                have lx9 := x9.lt
                have lx4 := x4.lt
                have hsz6 := hb.size
                replace x4 := x4.keep hb
                replace B := bcall B hb
                clear hb x8 q8 f8 l8
                replace x9 := x9.keep hbk.out
                obtain ⟨q9, f9, l9⟩ := x9.all
                go_upto_region 20 with fail
                refine name_world ?_
                intro w7 hw7
                have x11 : Bx w7 w6.heap.size 25 #[.int .i64 akind, .float .f32 aX, .float .f32 aY, .float .f32 aWd, .float .f32 aH, .float .f32 aS, .slice (some ⟨g, 0, none⟩) apn vc, .bool aout] := by rw [hw7]; exact Bx.new _ _ _
                have hb7 := below_eqK hw7
                replace x4 := x4.keep hb7
                replace x9 := x9.keep hb7
                replace xg := xg.keep hb7
                have hgl : g < w6.heap.size := hgl
                have hp11 : W.heap.size < w6.heap.size := by omega
                replace B := bcall B hb7
                clear hb7 hw7 q9 f9 l9 hbk
                generalize w6.heap.size = p11 at *
                obtain ⟨q9, f9, l9⟩ := x9.all
                go_upto_region 21 with fail
                refine name_world ?_
                intro wa hwa
                have x12 : Bx wa w7.heap.size 25 #[.int .i64 bkind, .float .f32 bX, .float .f32 bY, .float .f32 bWd, .float .f32 bH, .float .f32 bS, .slice (some ⟨bb, bo, none⟩) apn bpc, .bool bout] := by rw [hwa]; exact Bx.new _ _ _
                have hb8 := below_eqK hwa
                have hp12 : p11 < w7.heap.size := x11.lt
                replace x4 := x4.keep hb8
                replace x11 := x11.keep hb8
                replace xg := xg.keep hb8
                replace B := bcall B hb8
                clear hb8 hwa q9 f9 l9 x9
                generalize w7.heap.size = p12 at *
                refine wp_region_grd 13 (fun _ => false) (fun q u w' => u = [.pointer (some ⟨p11, 1, none⟩), .float .f32 aX, .pointer (some ⟨p12, 1, none⟩), .float .f32 bX, .float .f32 T, .float .f32 (lerpV aX bX T), .pointer (some ⟨p11, 2, none⟩), .float .f32 aY, .pointer (some ⟨p12, 2, none⟩), .float .f32 bY, .float .f32 T, .float .f32 (lerpV aY bY T), .pointer (some ⟨p11, 1, none⟩)].getD q undef) (fun _ => false) (fun w' => Below wa.heap.size wa w') (by kernel_rfl) (by kernel_rfl) (fun _ _ _ _ _ h => h)
                  (fun _ _ h e => e.trans (h.mono e.size)) (fun t u a' b' hb h => ?_) (Below.refl _ _).drew ?_ ?_ ?_
                · exact h
                · intro t op ht hlt hop
                  clear hlt
                  rcases (by omega : t = 0 ∨ t = 1 ∨ t = 2 ∨ t = 3 ∨ t = 4 ∨ t = 5 ∨ t = 6 ∨ t = 7 ∨ t = 8 ∨ t = 9 ∨ t = 10 ∨ t = 11 ∨ t = 12) with rfl | rfl | rfl | rfl | rfl | rfl | rfl | rfl | rfl | rfl | rfl | rfl | rfl
                  all_goals simp only [List.getElem?_cons_zero, List.getElem?_cons_succ, Option.some.injEq] at hop
                  all_goals subst hop
                  all_goals intro a wx hE hag hdep
                  · refine grd_none rfl ?_
                    have e0 := slot_eq (hag 11 rfl)
                    exact rel_pure _ rfl rfl (by simp [go_sem, e0])
                  · refine grd_none rfl ?_
                    have e0 := slot_eq (hdep ⟨0, .data⟩ (by simp) rfl)
                    have hq := (x11.keep hE).all.1
                    exact rel_pure _ rfl rfl (by simp [go_sem, e0, hq])
                  · refine grd_none rfl ?_
                    have e0 := slot_eq (hag 12 rfl)
                    exact rel_pure _ rfl rfl (by simp [go_sem, e0])
                  · refine grd_none rfl ?_
                    have e0 := slot_eq (hdep ⟨2, .data⟩ (by simp) rfl)
                    have hq := (x12.keep hE).all.1
                    exact rel_pure _ rfl rfl (by simp [go_sem, e0, hq])
                  · refine grd_none rfl ?_
                    have e0 := slot_eq (hag 10 rfl)
                    exact rel_pure _ rfl rfl (by simp [go_sem, e0])
                  · refine grd_none rfl ?_
                    have e0 := slot_eq (hdep ⟨1, .data⟩ (by simp) rfl)
                    have e1 := slot_eq (hdep ⟨3, .data⟩ (by simp) rfl)
                    have e2 := slot_eq (hdep ⟨4, .data⟩ (by simp) rfl)
                    refine rel_call (f := 35) (args := #[.float .f32 aX, .float .f32 bX, .float .f32 T]) (run_go_call Try.func35 (by kernel_rfl) (by kernel_rfl) _ _ _ _ _ _ _ _ _ _ (by simp [Act.eval, e0, e1, e2])) rfl ?_
                    refine (num_LerpP MX.out.1 MX.out.2 HT.out wx).mono ?_
                    rintro e w' ⟨rfl, rfl⟩
                    exact ⟨_, rfl, rfl, Below.refl _ _⟩
                  · refine grd_none rfl ?_
                    have e0 := slot_eq (hag 11 rfl)
                    exact rel_pure _ rfl rfl (by simp [go_sem, e0])
                  · refine grd_none rfl ?_
                    have e0 := slot_eq (hdep ⟨6, .data⟩ (by simp) rfl)
                    have hq := (x11.keep hE).all.1
                    exact rel_pure _ rfl rfl (by simp [go_sem, e0, hq])
                  · refine grd_none rfl ?_
                    have e0 := slot_eq (hag 12 rfl)
                    exact rel_pure _ rfl rfl (by simp [go_sem, e0])
                  · refine grd_none rfl ?_
                    have e0 := slot_eq (hdep ⟨8, .data⟩ (by simp) rfl)
                    have hq := (x12.keep hE).all.1
                    exact rel_pure _ rfl rfl (by simp [go_sem, e0, hq])
                  · refine grd_none rfl ?_
                    have e0 := slot_eq (hag 10 rfl)
                    exact rel_pure _ rfl rfl (by simp [go_sem, e0])
                  · refine grd_none rfl ?_
                    have e0 := slot_eq (hdep ⟨7, .data⟩ (by simp) rfl)
                    have e1 := slot_eq (hdep ⟨9, .data⟩ (by simp) rfl)
                    have e2 := slot_eq (hdep ⟨10, .data⟩ (by simp) rfl)
                    refine rel_call (f := 35) (args := #[.float .f32 aY, .float .f32 bY, .float .f32 T]) (run_go_call Try.func35 (by kernel_rfl) (by kernel_rfl) _ _ _ _ _ _ _ _ _ _ (by simp [Act.eval, e0, e1, e2])) rfl ?_
                    refine (num_LerpP MY.out.1 MY.out.2 HT.out wx).mono ?_
                    rintro e w' ⟨rfl, rfl⟩
                    exact ⟨_, rfl, rfl, Below.refl _ _⟩
                  · refine grd_none rfl ?_
                    have e0 := slot_eq (hag 11 rfl)
                    exact rel_pure _ rfl rfl (by simp [go_sem, e0])
                · intro t op ht hlt; cases hlt
                intro vs wy hE hvs _
                have k5 : vs 5 = .float .f32 (lerpV aX bX T) := hvs 5 (by omega)
                have k11 : vs 11 = .float .f32 (lerpV aY bY T) := hvs 11 (by omega)
                have k12 : vs 12 = .pointer (some ⟨p11, 1, none⟩) := hvs 12 (by omega)
                simp only [List.drop_succ_cons, List.drop_zero, putAll, dstAt, List.getElem?_toArray, List.getElem?_cons_zero, List.getElem?_cons_succ, Option.bind_some, Act.put, List.setIfInBounds_toArray, List.set_cons_zero, List.set_cons_succ, k5, k11, k12]
                clear hvs k5 k11 k12
                replace x4 := x4.keep hE
                replace x11 := x11.keep hE
                replace x12 := x12.keep hE
                replace xg := xg.keep hE
                have hszB := B.size
                replace B := B.trans (hE.mono hszB)
                clear hE hszB
                obtain ⟨q11, f11, l11⟩ := x11.all
                go_upto_region 22 with fail
                refine name_world ?_
                intro wb hwb
                have y11 : Bx wb p11 25 #[.int .i64 akind, .float .f32 (lerpV aX bX T), .float .f32 (lerpV aY bY T), .float .f32 aWd, .float .f32 aH, .float .f32 aS, .slice (some ⟨g, 0, none⟩) apn vc, .bool aout] := by rw [hwb]; exact (x11.set 1 _).set 2 _
                replace x4 : Bx wb W.heap.size 25 #[.int .i64 0, .float .f32 0, .float .f32 0, .float .f32 0, .float .f32 0, .float .f32 0, .slice none 0 0, .bool false] := by rw [hwb]; exact (Bx.other (Bx.other x4 _ _ (by first | omega | (simp; done) | (simp; omega))) _ _ (by first | omega | (simp; done) | (simp; omega)))
                replace x12 : Bx wb p12 25 #[.int .i64 bkind, .float .f32 bX, .float .f32 bY, .float .f32 bWd, .float .f32 bH, .float .f32 bS, .slice (some ⟨bb, bo, none⟩) apn bpc, .bool bout] := by rw [hwb]; exact (Bx.other (Bx.other x12 _ _ (by first | omega | (simp; done) | (simp; omega))) _ _ (by first | omega | (simp; done) | (simp; omega)))
                replace xg : Bx wb g 71 cs := by rw [hwb]; exact (Bx.other (Bx.other xg _ _ (by first | omega | (simp; done) | (simp; omega))) _ _ (by first | omega | (simp; done) | (simp; omega)))
                replace B : Below W.heap.size W wb := by rw [hwb]; exact bput (by omega) (bput (by omega) B)
                clear hwb q11 f11 l11 x11
                have x11 := y11
                clear y11
                refine wp_region_grd 13 (fun _ => false) (fun q u w' => u = [.pointer (some ⟨p11, 3, none⟩), .float .f32 aWd, .pointer (some ⟨p12, 3, none⟩), .float .f32 bWd, .float .f32 T, .float .f32 (lerpV aWd bWd T), .pointer (some ⟨p11, 4, none⟩), .float .f32 aH, .pointer (some ⟨p12, 4, none⟩), .float .f32 bH, .float .f32 T, .float .f32 (lerpV aH bH T), .pointer (some ⟨p11, 3, none⟩)].getD q undef) (fun _ => false) (fun w' => Below wb.heap.size wb w') (by kernel_rfl) (by kernel_rfl) (fun _ _ _ _ _ h => h)
                  (fun _ _ h e => e.trans (h.mono e.size)) (fun t u a' b' hb h => ?_) (Below.refl _ _).drew ?_ ?_ ?_
                · exact h
                · intro t op ht hlt hop
                  clear hlt
                  rcases (by omega : t = 0 ∨ t = 1 ∨ t = 2 ∨ t = 3 ∨ t = 4 ∨ t = 5 ∨ t = 6 ∨ t = 7 ∨ t = 8 ∨ t = 9 ∨ t = 10 ∨ t = 11 ∨ t = 12) with rfl | rfl | rfl | rfl | rfl | rfl | rfl | rfl | rfl | rfl | rfl | rfl | rfl
                  all_goals simp only [List.getElem?_cons_zero, List.getElem?_cons_succ, Option.some.injEq] at hop
                  all_goals subst hop
                  all_goals intro a wx hE hag hdep
                  · refine grd_none rfl ?_
                    have e0 := slot_eq (hag 11 rfl)
                    exact rel_pure _ rfl rfl (by simp [go_sem, e0])
                  · refine grd_none rfl ?_
                    have e0 := slot_eq (hdep ⟨0, .data⟩ (by simp) rfl)
                    have hq := (x11.keep hE).all.1
                    exact rel_pure _ rfl rfl (by simp [go_sem, e0, hq])
                  · refine grd_none rfl ?_
                    have e0 := slot_eq (hag 12 rfl)
                    exact rel_pure _ rfl rfl (by simp [go_sem, e0])
                  · refine grd_none rfl ?_
                    have e0 := slot_eq (hdep ⟨2, .data⟩ (by simp) rfl)
                    have hq := (x12.keep hE).all.1
                    exact rel_pure _ rfl rfl (by simp [go_sem, e0, hq])
                  · refine grd_none rfl ?_
                    have e0 := slot_eq (hag 10 rfl)
                    exact rel_pure _ rfl rfl (by simp [go_sem, e0])
                  · refine grd_none rfl ?_
                    have e0 := slot_eq (hdep ⟨1, .data⟩ (by simp) rfl)
                    have e1 := slot_eq (hdep ⟨3, .data⟩ (by simp) rfl)
                    have e2 := slot_eq (hdep ⟨4, .data⟩ (by simp) rfl)
                    refine rel_call (f := 35) (args := #[.float .f32 aWd, .float .f32 bWd, .float .f32 T]) (run_go_call Try.func35 (by kernel_rfl) (by kernel_rfl) _ _ _ _ _ _ _ _ _ _ (by simp [Act.eval, e0, e1, e2])) rfl ?_
                    refine (num_LerpP MW.out.1 MW.out.2 HT.out wx).mono ?_
                    rintro e w' ⟨rfl, rfl⟩
                    exact ⟨_, rfl, rfl, Below.refl _ _⟩
                  · refine grd_none rfl ?_
                    have e0 := slot_eq (hag 11 rfl)
                    exact rel_pure _ rfl rfl (by simp [go_sem, e0])
                  · refine grd_none rfl ?_
                    have e0 := slot_eq (hdep ⟨6, .data⟩ (by simp) rfl)
                    have hq := (x11.keep hE).all.1
                    exact rel_pure _ rfl rfl (by simp [go_sem, e0, hq])
                  · refine grd_none rfl ?_
                    have e0 := slot_eq (hag 12 rfl)
                    exact rel_pure _ rfl rfl (by simp [go_sem, e0])
                  · refine grd_none rfl ?_
                    have e0 := slot_eq (hdep ⟨8, .data⟩ (by simp) rfl)
                    have hq := (x12.keep hE).all.1
                    exact rel_pure _ rfl rfl (by simp [go_sem, e0, hq])
                  · refine grd_none rfl ?_
                    have e0 := slot_eq (hag 10 rfl)
                    exact rel_pure _ rfl rfl (by simp [go_sem, e0])
                  · refine grd_none rfl ?_
                    have e0 := slot_eq (hdep ⟨7, .data⟩ (by simp) rfl)
                    have e1 := slot_eq (hdep ⟨9, .data⟩ (by simp) rfl)
                    have e2 := slot_eq (hdep ⟨10, .data⟩ (by simp) rfl)
                    refine rel_call (f := 35) (args := #[.float .f32 aH, .float .f32 bH, .float .f32 T]) (run_go_call Try.func35 (by kernel_rfl) (by kernel_rfl) _ _ _ _ _ _ _ _ _ _ (by simp [Act.eval, e0, e1, e2])) rfl ?_
                    refine (num_LerpP MH.out.1 MH.out.2 HT.out wx).mono ?_
                    rintro e w' ⟨rfl, rfl⟩
                    exact ⟨_, rfl, rfl, Below.refl _ _⟩
                  · refine grd_none rfl ?_
                    have e0 := slot_eq (hag 11 rfl)
                    exact rel_pure _ rfl rfl (by simp [go_sem, e0])
                · intro t op ht hlt; cases hlt
                intro vs wy hE hvs _
                have k5 : vs 5 = .float .f32 (lerpV aWd bWd T) := hvs 5 (by omega)
                have k11 : vs 11 = .float .f32 (lerpV aH bH T) := hvs 11 (by omega)
                have k12 : vs 12 = .pointer (some ⟨p11, 3, none⟩) := hvs 12 (by omega)
                simp only [List.drop_succ_cons, List.drop_zero, putAll, dstAt, List.getElem?_toArray, List.getElem?_cons_zero, List.getElem?_cons_succ, Option.bind_some, Act.put, List.setIfInBounds_toArray, List.set_cons_zero, List.set_cons_succ, k5, k11, k12]
                clear hvs k5 k11 k12
                replace x4 := x4.keep hE
                replace x11 := x11.keep hE
                replace x12 := x12.keep hE
                replace xg := xg.keep hE
                have hszB := B.size
                replace B := B.trans (hE.mono hszB)
                clear hE hszB
                obtain ⟨q11, f11, l11⟩ := x11.all
                go_upto_region 23 with fail
                refine name_world ?_
                intro wc hwc
                have y11 : Bx wc p11 25 #[.int .i64 akind, .float .f32 (lerpV aX bX T), .float .f32 (lerpV aY bY T), .float .f32 (lerpV aWd bWd T), .float .f32 (lerpV aH bH T), .float .f32 aS, .slice (some ⟨g, 0, none⟩) apn vc, .bool aout] := by rw [hwc]; exact (x11.set 3 _).set 4 _
                replace x4 : Bx wc W.heap.size 25 #[.int .i64 0, .float .f32 0, .float .f32 0, .float .f32 0, .float .f32 0, .float .f32 0, .slice none 0 0, .bool false] := by rw [hwc]; exact (Bx.other (Bx.other x4 _ _ (by first | omega | (simp; done) | (simp; omega))) _ _ (by first | omega | (simp; done) | (simp; omega)))
                replace x12 : Bx wc p12 25 #[.int .i64 bkind, .float .f32 bX, .float .f32 bY, .float .f32 bWd, .float .f32 bH, .float .f32 bS, .slice (some ⟨bb, bo, none⟩) apn bpc, .bool bout] := by rw [hwc]; exact (Bx.other (Bx.other x12 _ _ (by first | omega | (simp; done) | (simp; omega))) _ _ (by first | omega | (simp; done) | (simp; omega)))
                replace xg : Bx wc g 71 cs := by rw [hwc]; exact (Bx.other (Bx.other xg _ _ (by first | omega | (simp; done) | (simp; omega))) _ _ (by first | omega | (simp; done) | (simp; omega)))
                replace B : Below W.heap.size W wc := by rw [hwc]; exact bput (by omega) (bput (by omega) B)
                clear hwc q11 f11 l11 x11
                have x11 := y11
                clear y11
                obtain ⟨q11, f11, l11⟩ := x11.all
                obtain ⟨q12, f12, l12⟩ := x12.all
                go_wp2_with fail
                refine (num_LerpP MS.out.1 MS.out.2 HT.out _).mono ?_
                rintro e wd ⟨rfl, rfl⟩
                go_upto_region 24 with fail
                refine name_world ?_
                intro wd hwd
                have y11 : Bx wd p11 25 #[.int .i64 akind, .float .f32 (lerpV aX bX T), .float .f32 (lerpV aY bY T), .float .f32 (lerpV aWd bWd T), .float .f32 (lerpV aH bH T), .float .f32 (lerpV aS bS T), .slice (some ⟨g, 0, none⟩) apn vc, .bool aout] := by rw [hwd]; exact x11.set 5 _
                replace x4 : Bx wd W.heap.size 25 #[.int .i64 0, .float .f32 0, .float .f32 0, .float .f32 0, .float .f32 0, .float .f32 0, .slice none 0 0, .bool false] := by rw [hwd]; exact (Bx.other x4 _ _ (by first | omega | (simp; done) | (simp; omega)))
                replace x12 : Bx wd p12 25 #[.int .i64 bkind, .float .f32 bX, .float .f32 bY, .float .f32 bWd, .float .f32 bH, .float .f32 bS, .slice (some ⟨bb, bo, none⟩) apn bpc, .bool bout] := by rw [hwd]; exact (Bx.other x12 _ _ (by first | omega | (simp; done) | (simp; omega)))
                replace xg : Bx wd g 71 cs := by rw [hwd]; exact (Bx.other xg _ _ (by first | omega | (simp; done) | (simp; omega)))
                replace B : Below W.heap.size W wd := by rw [hwd]; exact bput (by omega) B
                clear hwd q11 f11 l11 q12 f12 l12 x11
                obtain ⟨q11, f11, l11⟩ := y11.all
                go_wp2_with fail
                go_loopw [128] (fun i wr => ∃ (m : Nat) (cs : Array Value), m ≤ apn ∧ i = .int .i64 (m : Int) ∧ HoldsX cs aps (mixP aps bps T) m ∧ Bx wr g 71 cs ∧ Bx wr p11 25 #[.int .i64 akind, .float .f32 (lerpV aX bX T), .float .f32 (lerpV aY bY T), .float .f32 (lerpV aWd bWd T), .float .f32 (lerpV aH bH T), .float .f32 (lerpV aS bS T), .slice (some ⟨g, 0, none⟩) apn vc, .bool aout] ∧ Bx wr p12 25 #[.int .i64 bkind, .float .f32 bX, .float .f32 bY, .float .f32 bWd, .float .f32 bH, .float .f32 bS, .slice (some ⟨bb, bo, none⟩) apn bpc, .bool bout] ∧ Bx wr W.heap.size 25 #[.int .i64 0, .float .f32 0, .float .f32 0, .float .f32 0, .float .f32 0, .float .f32 0, .slice none 0 0, .bool false] ∧ Below W.heap.size W wr) (fun i _ => apn - (intOf i).toNat)
                case atStart => exact ⟨0, cs, by omega, rfl, HoldsX.start hH.out, xg, y11, x12, x4, B⟩
                case round =>
                  clear xg y11 x12 x4 B q11 f11 l11
                  obtain ⟨m, cz, hm, rfl, hz, xg, y11, x12, x4, B⟩ := hrel
                  by_cases hmn : m < apn
                  · have hmi : (m : Int) < (apn : Int) := by omega
                    obtain ⟨s1, s2, s3⟩ := hz.step (by rw [← Hapn.out]; exact hmn)
                    have S3 := Lib.hid s3
                    clear s3 hz
                    obtain ⟨gq, gf, gl⟩ := xg.all
                    have c1 : wr.cell? ⟨g, m * 2, none⟩ = some (.int .i64 (aps.getD m default).1) := by rw [gq]; exact s1
                    have c2 : wr.cell? ⟨g, m * 2 + 1, none⟩ = some (.int .i64 (aps.getD m default).2) := by rw [gq]; exact s2
                    obtain ⟨U1, U2⟩ := hbp.out m (by rw [HPL.out, ← Hapn.out]; exact hmn)
                    have u1 := (B.cell (p := ⟨bb, bo + m * 2, none⟩) hbbl).trans U1
                    have r1 := MP1.out m (by rw [← Hapn.out]; exact hmn)
                    have r2 := MP2.out m (by rw [HPL.out, ← Hapn.out]; exact hmn)
                    rw [mixP_get _ _ _ _ (by rw [← Hapn.out]; exact hmn)] at S3
                    generalize (aps.getD m default).1 = px at *
                    generalize (aps.getD m default).2 = py at *
                    generalize (bps.getD m default).1 = qx at *
                    generalize (bps.getD m default).2 = qy at *
                    have S2 := Lib.hid s2
                    have HU2 := Lib.hid U2
                    clear s1 s2 gq gf gl U1 U2
                    have hszB := B.size
                    obtain ⟨q11, f11, l11⟩ := y11.all
                    have lg := xg.lt
                    go_upto_region 28 with fail
                    have hpk : Hid (∀ w', Below wr.heap.size wr w' → w'.cell? ⟨g, m * 2, none⟩ = some (.int .i64 px)) := Lib.hid fun w' h => (h.cell (p := ⟨g, m * 2, none⟩) lg).trans c1
                    have hqk : Hid (∀ w', Below wr.heap.size wr w' → w'.cell? ⟨bb, bo + m * 2, none⟩ = some (.int .i64 qx)) := Lib.hid fun w' h => (h.cell (p := ⟨bb, bo + m * 2, none⟩) (by show bb < wr.heap.size; omega)).trans u1
                    have hsm : Hid (SmB 20 (floatOfInt .f32 px) ∧ SmB 20 (floatOfInt .f32 qx)) := Lib.hid ⟨ofInt_smb r1.1 r1.2.1, ofInt_smb r2.1 r2.2.1⟩
                    refine wp_region_late 20 (fun q => q == 18 || q == 19) (fun q u w' => if q = 15 then ∃ bq, u = .tuple #[.int .i64 (mixI px qx T), .bool bq, .int .i64 0] else if q = 16 then ∃ bq, u = .tuple #[.int .i64 (mixI px qx T), .bool bq, .int .i64 0] else if q = 18 then ∃ bq, u = .bool bq else u = [.pointer (some ⟨g, m * 2, none⟩), .pointer (some ⟨g, m * 2, none⟩), .pointer (some ⟨g, m * 2, none⟩), .pointer (some ⟨g, m * 2, none⟩), .int .i64 px, .float .f32 (floatOfInt .f32 px), .pointer (some ⟨p12, 6, none⟩), .slice (some ⟨bb, bo, none⟩) apn bpc, .int .i64 (m : Int), .pointer (some ⟨bb, bo + m * 2, none⟩), .pointer (some ⟨bb, bo + m * 2, none⟩), .int .i64 qx, .float .f32 (floatOfInt .f32 qx), .float .f32 T, .float .f32 (lerpV (floatOfInt .f32 px) (floatOfInt .f32 qx) T), undef, undef, .int .i64 (mixI px qx T), undef, .int .i64 0].getD q undef) (fun _ => false) (fun w' => Below wr.heap.size wr w') (by kernel_rfl) (by kernel_rfl) (fun _ _ _ _ _ h => h)
                      (fun _ _ h e => e.trans (h.mono e.size)) (fun t u a' b' hb h => ?_) (Below.refl _ _).drew ?_ ?_ ?_
                    · exact h
                    · intro t op ht hlt hop
                      simp only [Bool.or_eq_false_iff, beq_eq_false_iff_ne] at hlt
                      rcases (by omega : t = 0 ∨ t = 1 ∨ t = 2 ∨ t = 3 ∨ t = 4 ∨ t = 5 ∨ t = 6 ∨ t = 7 ∨ t = 8 ∨ t = 9 ∨ t = 10 ∨ t = 11 ∨ t = 12 ∨ t = 13 ∨ t = 14 ∨ t = 15 ∨ t = 16 ∨ t = 17) with rfl | rfl | rfl | rfl | rfl | rfl | rfl | rfl | rfl | rfl | rfl | rfl | rfl | rfl | rfl | rfl | rfl | rfl
                      all_goals simp only [List.getElem?_cons_zero, List.getElem?_cons_succ, Option.some.injEq] at hop
                      all_goals subst hop
                      all_goals intro a wx hE hag hdep
                      · have e0 := slot_eq (hag 14 rfl)
                        exact rel_pure _ rfl rfl (by simp [go_sem, e0])
                      · have e0 := slot_eq (hag 14 rfl)
                        exact rel_pure _ rfl rfl (by simp [go_sem, e0])
                      · have e0 := slot_eq (hdep ⟨1, .data⟩ (by simp) rfl)
                        exact rel_pure _ rfl rfl (by simp [go_sem, e0])
                      · have e0 := slot_eq (hdep ⟨2, .data⟩ (by simp) rfl)
                        exact rel_pure _ rfl rfl (by simp [go_sem, e0])
                      · have e0 := slot_eq (hdep ⟨3, .data⟩ (by simp) rfl)
                        have hq := (hpk.out _ hE)
                        exact rel_pure _ rfl rfl (by simp [go_sem, e0, hq])
                      · have e0 := slot_eq (hdep ⟨4, .data⟩ (by simp) rfl)
                        exact rel_pure _ rfl rfl (by simp [go_sem, e0])
                      · have e0 := slot_eq (hag 12 rfl)
                        exact rel_pure _ rfl rfl (by simp [go_sem, e0])
                      · have e0 := slot_eq (hdep ⟨6, .data⟩ (by simp) rfl)
                        have hq := (x12.keep hE).all.1
                        exact rel_pure _ rfl rfl (by simp [go_sem, e0, hq])
                      · have e0 := slot_eq (hag 13 rfl)
                        exact rel_pure _ rfl rfl (by simp [go_sem, e0])
                      · have e0 := slot_eq (hdep ⟨7, .data⟩ (by simp) rfl)
                        have e1 := slot_eq (hdep ⟨8, .data⟩ (by simp) rfl)
                        exact rel_pure _ rfl rfl (by simp [go_sem, e0, e1, hmi])
                      · have e0 := slot_eq (hdep ⟨9, .data⟩ (by simp) rfl)
                        exact rel_pure _ rfl rfl (by simp [go_sem, e0])
                      · have e0 := slot_eq (hdep ⟨10, .data⟩ (by simp) rfl)
                        have hq := (hqk.out _ hE)
                        exact rel_pure _ rfl rfl (by simp [go_sem, e0, hq])
                      · have e0 := slot_eq (hdep ⟨11, .data⟩ (by simp) rfl)
                        exact rel_pure _ rfl rfl (by simp [go_sem, e0])
                      · have e0 := slot_eq (hag 10 rfl)
                        exact rel_pure _ rfl rfl (by simp [go_sem, e0])
                      · have e0 := slot_eq (hdep ⟨5, .data⟩ (by simp) rfl)
                        have e1 := slot_eq (hdep ⟨12, .data⟩ (by simp) rfl)
                        have e2 := slot_eq (hdep ⟨13, .data⟩ (by simp) rfl)
                        refine rel_call (f := 35) (args := #[.float .f32 (floatOfInt .f32 px), .float .f32 (floatOfInt .f32 qx), .float .f32 T]) (run_go_call Try.func35 (by kernel_rfl) (by kernel_rfl) _ _ _ _ _ _ _ _ _ _ (by simp [Act.eval, e0, e1, e2])) rfl ?_
                        refine (num_LerpP hsm.out.1 hsm.out.2 HT.out wx).mono ?_
                        rintro e w' ⟨rfl, rfl⟩
                        exact ⟨_, rfl, rfl, Below.refl _ _⟩
                      · have e0 := slot_eq (hdep ⟨14, .data⟩ (by simp) rfl)
                        refine rel_call (f := 36) (args := #[.float .f32 (lerpV (floatOfInt .f32 px) (floatOfInt .f32 qx) T), .int .i64 (-1048576), .int .i64 1048576]) (run_go_call Try.func36 (by kernel_rfl) (by kernel_rfl) _ _ _ _ _ _ _ _ _ _ (by simp [Act.eval, e0])) rfl ?_
                        refine (num_Near (lerpV_nn hsm.out.1 hsm.out.2 HT.out) wx).mono ?_
                        rintro e w' ⟨bq, rfl, rfl⟩
                        exact ⟨_, rfl, ⟨bq, rfl⟩, Below.refl _ _⟩
                      · obtain ⟨bq, e0⟩ := hdep ⟨15, .data⟩ (by simp) rfl
                        have e0 := slot_eq e0
                        exact rel_pure _ rfl ⟨bq, rfl⟩ (by simp [go_sem, e0])
                      · obtain ⟨bq, e0⟩ := hdep ⟨16, .data⟩ (by simp) rfl
                        have e0 := slot_eq e0
                        exact rel_pure _ rfl rfl (by simp [go_sem, e0])
                    · intro t op ht hlt hop a wx hE hdep
                      simp only [Bool.or_eq_true, beq_iff_eq] at hlt
                      rcases (by omega : t = 18 ∨ t = 19) with rfl | rfl
                      all_goals simp only [List.getElem?_cons_zero, List.getElem?_cons_succ, Option.some.injEq] at hop
                      all_goals subst hop
                      · obtain ⟨bq, e0⟩ := hdep ⟨16, .data⟩ (by simp) rfl
                        have e0 := slot_eq e0
                        exact ⟨rfl, _, ⟨bq, rfl⟩, fun u => by simp [go_sem, e0]⟩
                      · obtain ⟨bq, e0⟩ := hdep ⟨16, .data⟩ (by simp) rfl
                        have e0 := slot_eq e0
                        exact ⟨rfl, _, rfl, fun u => by simp [go_sem, e0]⟩
                    intro vs wy hE hvs _
                    have k0 : vs 0 = .pointer (some ⟨g, m * 2, none⟩) := hvs 0 (by omega)
                    have k17 : vs 17 = .int .i64 (mixI px qx T) := hvs 17 (by omega)
                    simp only [List.drop_succ_cons, List.drop_zero, putAll, dstAt, List.getElem?_toArray, List.getElem?_cons_zero, List.getElem?_cons_succ, Option.bind_some, Act.put, List.setIfInBounds_toArray, List.set_cons_zero, List.set_cons_succ, k0, k17]
                    clear hvs k0 k17

                    replace c1 := (hE.cell (p := ⟨g, m * 2, none⟩) lg).trans c1
                    replace xg := xg.keep hE
                    replace y11 := y11.keep hE
                    replace x12 := x12.keep hE
                    replace x4 := x4.keep hE
                    replace B := B.trans (hE.mono hszB)
                    clear hE hpk hqk hsm u1 hszB q11 f11 l11 lg c2
                    obtain ⟨gq, gf, gl⟩ := xg.all
                    clear gq
                    go_upto_region 29 with fail
                    refine name_world ?_
                    intro wz hwz
                    have xg2 : Bx wz g 71 (cz.setIfInBounds (m * 2) (.int .i64 (mixI px qx T))) := by rw [hwz]; exact xg.set _ _
                    have c2 : wz.cell? ⟨g, m * 2 + 1, none⟩ = some (.int .i64 py) := by rw [xg2.all.1 (m * 2 + 1), Array.getElem?_setIfInBounds_ne (by omega)]; exact S2.out
                    replace y11 : Bx wz p11 25 #[.int .i64 akind, .float .f32 (lerpV aX bX T), .float .f32 (lerpV aY bY T), .float .f32 (lerpV aWd bWd T), .float .f32 (lerpV aH bH T), .float .f32 (lerpV aS bS T), .slice (some ⟨g, 0, none⟩) apn vc, .bool aout] := by rw [hwz]; exact (Bx.other y11 _ _ (by first | omega | (simp; done) | (simp; omega)))
                    replace x12 : Bx wz p12 25 #[.int .i64 bkind, .float .f32 bX, .float .f32 bY, .float .f32 bWd, .float .f32 bH, .float .f32 bS, .slice (some ⟨bb, bo, none⟩) apn bpc, .bool bout] := by rw [hwz]; exact (Bx.other x12 _ _ (by first | omega | (simp; done) | (simp; omega)))
                    replace x4 : Bx wz W.heap.size 25 #[.int .i64 0, .float .f32 0, .float .f32 0, .float .f32 0, .float .f32 0, .float .f32 0, .slice none 0 0, .bool false] := by rw [hwz]; exact (Bx.other x4 _ _ (by first | omega | (simp; done) | (simp; omega)))
                    replace B : Below W.heap.size W wz := by rw [hwz]; exact bput (by omega) B
                    have u2 := (B.cell (p := ⟨bb, bo + m * 2 + 1, none⟩) hbbl).trans HU2.out
                    clear hwz xg gf gl c1
                    have hszB := B.size
                    have lg := xg2.lt
                    have hpk : Hid (∀ w', Below wz.heap.size wz w' → w'.cell? ⟨g, m * 2 + 1, none⟩ = some (.int .i64 py)) := Lib.hid fun w' h => (h.cell (p := ⟨g, m * 2 + 1, none⟩) lg).trans c2
                    have hqk : Hid (∀ w', Below wz.heap.size wz w' → w'.cell? ⟨bb, bo + m * 2 + 1, none⟩ = some (.int .i64 qy)) := Lib.hid fun w' h => (h.cell (p := ⟨bb, bo + m * 2 + 1, none⟩) (by show bb < wz.heap.size; omega)).trans u2
                    have hsm : Hid (SmB 20 (floatOfInt .f32 py) ∧ SmB 20 (floatOfInt .f32 qy)) := Lib.hid ⟨ofInt_smb r1.2.2.1 r1.2.2.2, ofInt_smb r2.2.2.1 r2.2.2.2⟩
                    refine wp_region_late 20 (fun q => q == 18 || q == 19) (fun q u w' => if q = 15 then ∃ bq, u = .tuple #[.int .i64 (mixI py qy T), .bool bq, .int .i64 0] else if q = 16 then ∃ bq, u = .tuple #[.int .i64 (mixI py qy T), .bool bq, .int .i64 0] else if q = 18 then ∃ bq, u = .bool bq else u = [.pointer (some ⟨g, m * 2, none⟩), .pointer (some ⟨g, m * 2, none⟩), .pointer (some ⟨g, m * 2, none⟩), .pointer (some ⟨g, m * 2 + 1, none⟩), .int .i64 py, .float .f32 (floatOfInt .f32 py), .pointer (some ⟨p12, 6, none⟩), .slice (some ⟨bb, bo, none⟩) apn bpc, .int .i64 (m : Int), .pointer (some ⟨bb, bo + m * 2, none⟩), .pointer (some ⟨bb, bo + m * 2 + 1, none⟩), .int .i64 qy, .float .f32 (floatOfInt .f32 qy), .float .f32 T, .float .f32 (lerpV (floatOfInt .f32 py) (floatOfInt .f32 qy) T), undef, undef, .int .i64 (mixI py qy T), undef, .int .i64 0].getD q undef) (fun _ => false) (fun w' => Below wz.heap.size wz w') (by kernel_rfl) (by kernel_rfl) (fun _ _ _ _ _ h => h)
                      (fun _ _ h e => e.trans (h.mono e.size)) (fun t u a' b' hb h => ?_) (Below.refl _ _).drew ?_ ?_ ?_
                    · exact h
                    · intro t op ht hlt hop
                      simp only [Bool.or_eq_false_iff, beq_eq_false_iff_ne] at hlt
                      rcases (by omega : t = 0 ∨ t = 1 ∨ t = 2 ∨ t = 3 ∨ t = 4 ∨ t = 5 ∨ t = 6 ∨ t = 7 ∨ t = 8 ∨ t = 9 ∨ t = 10 ∨ t = 11 ∨ t = 12 ∨ t = 13 ∨ t = 14 ∨ t = 15 ∨ t = 16 ∨ t = 17) with rfl | rfl | rfl | rfl | rfl | rfl | rfl | rfl | rfl | rfl | rfl | rfl | rfl | rfl | rfl | rfl | rfl | rfl
                      all_goals simp only [List.getElem?_cons_zero, List.getElem?_cons_succ, Option.some.injEq] at hop
                      all_goals subst hop
                      all_goals intro a wx hE hag hdep
                      · have e0 := slot_eq (hag 14 rfl)
                        exact rel_pure _ rfl rfl (by simp [go_sem, e0])
                      · have e0 := slot_eq (hag 14 rfl)
                        exact rel_pure _ rfl rfl (by simp [go_sem, e0])
                      · have e0 := slot_eq (hdep ⟨1, .data⟩ (by simp) rfl)
                        exact rel_pure _ rfl rfl (by simp [go_sem, e0])
                      · have e0 := slot_eq (hdep ⟨2, .data⟩ (by simp) rfl)
                        exact rel_pure _ rfl rfl (by simp [go_sem, e0])
                      · have e0 := slot_eq (hdep ⟨3, .data⟩ (by simp) rfl)
                        have hq := (hpk.out _ hE)
                        exact rel_pure _ rfl rfl (by simp [go_sem, e0, hq])
                      · have e0 := slot_eq (hdep ⟨4, .data⟩ (by simp) rfl)
                        exact rel_pure _ rfl rfl (by simp [go_sem, e0])
                      · have e0 := slot_eq (hag 12 rfl)
                        exact rel_pure _ rfl rfl (by simp [go_sem, e0])
                      · have e0 := slot_eq (hdep ⟨6, .data⟩ (by simp) rfl)
                        have hq := (x12.keep hE).all.1
                        exact rel_pure _ rfl rfl (by simp [go_sem, e0, hq])
                      · have e0 := slot_eq (hag 13 rfl)
                        exact rel_pure _ rfl rfl (by simp [go_sem, e0])
                      · have e0 := slot_eq (hdep ⟨7, .data⟩ (by simp) rfl)
                        have e1 := slot_eq (hdep ⟨8, .data⟩ (by simp) rfl)
                        exact rel_pure _ rfl rfl (by simp [go_sem, e0, e1, hmi])
                      · have e0 := slot_eq (hdep ⟨9, .data⟩ (by simp) rfl)
                        exact rel_pure _ rfl rfl (by simp [go_sem, e0])
                      · have e0 := slot_eq (hdep ⟨10, .data⟩ (by simp) rfl)
                        have hq := (hqk.out _ hE)
                        exact rel_pure _ rfl rfl (by simp [go_sem, e0, hq])
                      · have e0 := slot_eq (hdep ⟨11, .data⟩ (by simp) rfl)
                        exact rel_pure _ rfl rfl (by simp [go_sem, e0])
                      · have e0 := slot_eq (hag 10 rfl)
                        exact rel_pure _ rfl rfl (by simp [go_sem, e0])
                      · have e0 := slot_eq (hdep ⟨5, .data⟩ (by simp) rfl)
                        have e1 := slot_eq (hdep ⟨12, .data⟩ (by simp) rfl)
                        have e2 := slot_eq (hdep ⟨13, .data⟩ (by simp) rfl)
                        refine rel_call (f := 35) (args := #[.float .f32 (floatOfInt .f32 py), .float .f32 (floatOfInt .f32 qy), .float .f32 T]) (run_go_call Try.func35 (by kernel_rfl) (by kernel_rfl) _ _ _ _ _ _ _ _ _ _ (by simp [Act.eval, e0, e1, e2])) rfl ?_
                        refine (num_LerpP hsm.out.1 hsm.out.2 HT.out wx).mono ?_
                        rintro e w' ⟨rfl, rfl⟩
                        exact ⟨_, rfl, rfl, Below.refl _ _⟩
                      · have e0 := slot_eq (hdep ⟨14, .data⟩ (by simp) rfl)
                        refine rel_call (f := 36) (args := #[.float .f32 (lerpV (floatOfInt .f32 py) (floatOfInt .f32 qy) T), .int .i64 (-1048576), .int .i64 1048576]) (run_go_call Try.func36 (by kernel_rfl) (by kernel_rfl) _ _ _ _ _ _ _ _ _ _ (by simp [Act.eval, e0])) rfl ?_
                        refine (num_Near (lerpV_nn hsm.out.1 hsm.out.2 HT.out) wx).mono ?_
                        rintro e w' ⟨bq, rfl, rfl⟩
                        exact ⟨_, rfl, ⟨bq, rfl⟩, Below.refl _ _⟩
                      · obtain ⟨bq, e0⟩ := hdep ⟨15, .data⟩ (by simp) rfl
                        have e0 := slot_eq e0
                        exact rel_pure _ rfl ⟨bq, rfl⟩ (by simp [go_sem, e0])
                      · obtain ⟨bq, e0⟩ := hdep ⟨16, .data⟩ (by simp) rfl
                        have e0 := slot_eq e0
                        exact rel_pure _ rfl rfl (by simp [go_sem, e0])
                    · intro t op ht hlt hop a wx hE hdep
                      simp only [Bool.or_eq_true, beq_iff_eq] at hlt
                      rcases (by omega : t = 18 ∨ t = 19) with rfl | rfl
                      all_goals simp only [List.getElem?_cons_zero, List.getElem?_cons_succ, Option.some.injEq] at hop
                      all_goals subst hop
                      · obtain ⟨bq, e0⟩ := hdep ⟨16, .data⟩ (by simp) rfl
                        have e0 := slot_eq e0
                        exact ⟨rfl, _, ⟨bq, rfl⟩, fun u => by simp [go_sem, e0]⟩
                      · obtain ⟨bq, e0⟩ := hdep ⟨16, .data⟩ (by simp) rfl
                        have e0 := slot_eq e0
                        exact ⟨rfl, _, rfl, fun u => by simp [go_sem, e0]⟩
                    intro vs wy hE hvs _
                    have k0 : vs 0 = .pointer (some ⟨g, m * 2, none⟩) := hvs 0 (by omega)
                    have k17 : vs 17 = .int .i64 (mixI py qy T) := hvs 17 (by omega)
                    simp only [List.drop_succ_cons, List.drop_zero, putAll, dstAt, List.getElem?_toArray, List.getElem?_cons_zero, List.getElem?_cons_succ, Option.bind_some, Act.put, List.setIfInBounds_toArray, List.set_cons_zero, List.set_cons_succ, k0, k17]
                    clear hvs k0 k17

                    replace xg2 := xg2.keep hE
                    replace y11 := y11.keep hE
                    replace x12 := x12.keep hE
                    replace x4 := x4.keep hE
                    replace B := B.trans (hE.mono hszB)
                    replace c2 := (hE.cell (p := ⟨g, m * 2 + 1, none⟩) lg).trans c2
                    clear hE hpk hqk hsm u2 hszB lg
                    obtain ⟨gq, gf, gl⟩ := xg2.all
                    clear gq
                    go_wp2_with fail
                    go_roundw
                    case rel => exact ⟨m + 1, _, by omega, by go_num, S3.out, xg2.set _ _, (Bx.other y11 _ _ (by first | omega | (simp; done) | (simp; omega))), (Bx.other x12 _ _ (by first | omega | (simp; done) | (simp; omega))), (Bx.other x4 _ _ (by first | omega | (simp; done) | (simp; omega))), bput (by omega) B⟩
                    case measure => simp [intOf]; omega
                  · obtain rfl : m = apn := by omega
                    have hfull := hz
                    rw [Hapn.out] at hfull
                    have hP := Lib.hid (hfull.full (mixP_len _ _ _))
                    clear hz hfull
                    obtain ⟨q4, f4, l4⟩ := x4.all
                    obtain ⟨q11, f11, l11⟩ := y11.all
                    go_wp2_with fail
                    refine bodyPost_ret (v := .tuple #[.agg #[.int .i64 akind, .float .f32 (lerpV aX bX T), .float .f32 (lerpV aY bY T), .float .f32 (lerpV aWd bWd T), .float .f32 (lerpV aH bH T), .float .f32 (lerpV aS bS T), .slice (some ⟨g, 0, none⟩) m vc, .bool aout], .int .i64 0]) (by simp [results, Try.results11, go_sem, q4]) rfl ⟨_, Hidx.out, some ⟨g, 0, none⟩, vc, by rw [Hwin.out]; show _ = Ending.returned (.tuple #[.agg #[_, _, _, _, _, _, .slice _ (mixP aps bps T).length _, _], _]); rw [mixP_len, ← Hapn.out], ?_, bput (by omega) (bput (by omega) (bput (by omega) (bput (by omega) (bput (by omega) (bput (by omega) (bput (by omega) (bput (by omega) (B))))))))⟩
                    rw [Hwin.out]
                    show SlP _ (.slice (some ⟨g, 0, none⟩) (mixP aps bps T).length vc) (mixP aps bps T)
                    exact hP.out.slP ((Bx.other (Bx.other (Bx.other (Bx.other (Bx.other (Bx.other (Bx.other (Bx.other xg _ _ (by first | omega | (simp; done) | (simp; omega))) _ _ (by first | omega | (simp; done) | (simp; omega))) _ _ (by first | omega | (simp; done) | (simp; omega))) _ _ (by first | omega | (simp; done) | (simp; omega))) _ _ (by first | omega | (simp; done) | (simp; omega))) _ _ (by first | omega | (simp; done) | (simp; omega))) _ _ (by first | omega | (simp; done) | (simp; omega))) _ _ (by first | omega | (simp; done) | (simp; omega)))) (by rw [mixP_len]; unfold maxLen; omega) vc

    · obtain rfl : k = n := by omega
      obtain ⟨j, hj⟩ : ∃ j, k = j + 1 := ⟨k - 1, by omega⟩
      have Hidx : Hid (IsIdx ks f k) := Lib.hid ⟨by rw [← Hn.out]; exact Nat.le_refl _, hz.out, fun h => by have := Hn.out; omega⟩
      have Hwin : Hid (winOf ks f k = (ks.getD j default).wi) := Lib.hid (by rw [winOf_one (by omega) (.inl Hn.out), show k - 1 = j by omega])
      have hjk : (k : Int) - 1 = (j : Int) := by omega
      have hjn : (j : Int) < (k : Int) := by omega
      have hkj0 : ((k : Int) == 0) = false := beq_eq_false_iff_ne.2 (by omega)
      have Hj := Lib.hid hj
      clear hj hz
      obtain ⟨a0, a1, a2, a3, a4, a5, a6, a7, a8, a9⟩ := (Hat.out (j) (by omega)).keep B hbl
      obtain ⟨ab0, ab1, ae0, ae1, aw, ao, ak, au, al⟩ := Hok.out (j) (by omega)
      have asp := Hpts.out (j) (by omega)
      unfold Kf.pv at a8 asp
      unfold Kf.win at aw
      have al2 := (win_smb aw).2.2.2.2.2.1
      clear aw al ao ak au ab0 ab1 ae0 ae1
      unfold Kf.wi at Hwin
      generalize (ks.getD j default).fr = afr at *
      generalize (ks.getD j default).ease = aease at *
      generalize (ks.getD j default).kind = akind at *
      generalize (ks.getD j default).X = aX at *
      generalize (ks.getD j default).Y = aY at *
      generalize (ks.getD j default).Wd = aWd at *
      generalize (ks.getD j default).H = aH at *
      generalize (ks.getD j default).S = aS at *
      generalize (ks.getD j default).pa = apa at *
      generalize (ks.getD j default).pc = apc at *
      generalize (ks.getD j default).ps = aps at *
      generalize (ks.getD j default).out = aout at *
      obtain ⟨apn, hapn⟩ : ∃ z, z = aps.length := ⟨_, rfl⟩
      rw [← hapn] at a8 asp
      have Hasp := Lib.hid asp
      have Hapn := Lib.hid hapn
      clear asp hapn

      go_upto_region 10 with fail
      refine name_world ?_
      intro w2 hw2
      have x8 : Bx w2 wr.heap.size 44 #[.int .i64 afr, .int .i64 aease, .int .i64 akind, .float .f32 aX, .float .f32 aY, .float .f32 aWd, .float .f32 aH, .float .f32 aS, .slice apa apn apc, .bool aout] := by rw [hw2]; exact Bx.new _ _ _
      have hb2 := below_eqK hw2
      replace x4 := x4.keep hb2
      replace B := bcall B hb2
      clear hw2 hb2 a0 a1 a2 a3 a4 a5 a6 a7 a8 a9
      obtain ⟨q4, f4, l4⟩ := x4.all
      obtain ⟨q8, f8, l8⟩ := x8.all
      go_wp2_with fail
      refine (key_cloned akind aX aY aWd aH aS (.slice apa apn apc) aps aout _ (by omega) (Hasp.out.keep B)).mono ?_
      rintro e w5 ⟨v', rfl, hcp, hb⟩
      have hszB := B.size
      have l4B := x4.lt
      replace x4 := x4.keep hb
      replace B := bcall B hb
      replace hcp := hcp.mono (show W.heap.size + 1 ≤ _ by omega)
      obtain ⟨va, vc, rfl⟩ := hcp.sl
      have HCP := Lib.hid hcp
      clear hb q4 f4 l4 hcp
      obtain ⟨q4, f4, l4⟩ := x4.all
      go_wp2_with fail
      refine bodyPost_ret (v := .tuple #[.agg #[.int .i64 akind, .float .f32 aX, .float .f32 aY, .float .f32 aWd, .float .f32 aH, .float .f32 aS, .slice va aps.length vc, .bool aout], .int .i64 0]) (by simp [results, Try.results11, go_sem, q4]) rfl ⟨_, Hidx.out, va, vc, by rw [Hwin.out]; rfl, ?_, bput (by omega) (bput (by omega) (bput (by omega) (bput (by omega) (bput (by omega) (bput (by omega) (bput (by omega) (bput (by omega) (B))))))))⟩
      have h := HCP.out
      have c1 : W.heap.size < W.heap.size + 1 := by omega
      rw [Hwin.out]
      exact ((((((((h.put c1).put c1).put c1).put c1).put c1).put c1).put c1).put c1).slP (by show aps.length ≤ _; unfold maxLen; omega)
end Go.Proofs.Ytfkiljhjiogdlaa
