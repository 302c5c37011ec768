/- frame.Join. (printed by gen_jna.py) -/
import Derived.Test.YtccbhghpghijiaaJnF
import Derived.Test.YtccbhghpghijiaaCutG
import Derived.Deep.DeepCutAuto
namespace Go.Proofs.Ytccbhghpghijiaa
open Go.RowKit

set_option maxRecDepth 100000 in
set_option maxHeartbeats 4000000 in
theorem frame_Join_bad (x y w h : Int) (v : Value) (L : List Fr) (W : World) (h0 : checkRegion x y w h ≠ 0) :
    Calls Try.prog 6 #[.agg #[.int .i64 x, .int .i64 y, .int .i64 w, .int .i64 h], v] W (JoinR x y w h L W) := by
  have HC := Lib.hid (fun w' => frame_CheckRegion x y w h w')
  have HE := Lib.hid (joinErr_region (L := L) h0)
  have H0 := Lib.hid h0
  have e0 : (checkRegion x y w h != 0) = true := by simpa using h0
  clear h0
  generalize checkRegion x y w h = er at *
  go_enter Try.func6, Try.ntmps6
  go_upto_region 1 with fail
  refine name_world ?_
  intro w0 hw0
  have x2 : Bx w0 W.heap.size 23 #[.int .i64 x, .int .i64 y, .int .i64 w, .int .i64 h] := by rw [hw0]; exact (Bx.new _ _ _).alloc _
  have x4 : Bx w0 (W.heap.size + 1) 26 #[.int .i64 0, .int .i64 0, .int .i64 0, .int .i64 0, .slice none 0 0] := by rw [hw0]; exact Bx.at _ (by simp)
  have B : Below W.heap.size W w0 := by rw [hw0]; exact bnew (bnew (Below.refl _ W))
  clear hw0
  obtain ⟨q2, f2, l2⟩ := x2.all
  go_wp2_with fail
  refine (HC.out _).mono ?_
  rintro e w1 ⟨rfl, hb⟩
  replace x4 := x4.keep hb
  replace B := bcall B hb
  clear hb q2 f2 l2 x2
  obtain ⟨q4, f4, l4⟩ := x4.all
  go_wp2_with fail
  refine bodyPost_ret (v := .tuple #[.agg #[.int .i64 0, .int .i64 0, .int .i64 0, .int .i64 0, .slice none 0 0], .int .i64 er]) (by simp [results, Try.results6, go_sem, q4]) rfl (JoinR.bad HE.out H0.out (bput (by omega) (bput (by omega) (bput (by omega) (bput (by omega) (bput (by omega) (B)))))))

set_option maxRecDepth 100000 in
set_option maxHeartbeats 16000000 in
theorem frame_Join_ok (x y w h : Int) (v : Value) (L : List Fr) (W : World) (hs : SlF W v L) (hr : checkRegion x y w h = 0) :
    Calls Try.prog 6 #[.agg #[.int .i64 x, .int .i64 y, .int .i64 w, .int .i64 h], v] W (JoinR x y w h L W) := by
  obtain ⟨b1, b2, b3, b4, b5, b6, b7, b8, b9⟩ := checkRegion_ok hr
  obtain ⟨rw, rfl⟩ : ∃ n : Nat, w = n := ⟨w.toNat, by omega⟩
  obtain ⟨rh, rfl⟩ : ∃ n : Nat, h = n := ⟨h.toNat, by omega⟩
  have HS := Lib.hid hs
  have Hr := Lib.hid hr
  have HC : Hid (∀ w', Calls Try.prog 15 #[.agg #[.int .i64 x, .int .i64 y, .int .i64 (rw : Int), .int .i64 (rh : Int)]] w' fun e w'' => e = .returned (.int .i64 0) ∧ Below w'.heap.size w' w'') := Lib.hid fun w' => by rw [← hr]; exact frame_CheckRegion _ _ _ _ _
  obtain ⟨la, lc, rfl, hmax, hform, hok⟩ := hs
  obtain ⟨n, hn⟩ : ∃ n, n = L.length := ⟨_, rfl⟩
  rw [← hn] at hmax hok HS ⊢
  unfold maxLen at hmax
  have Hn := Lib.hid hn
  have Hok := Lib.hid hok
  have hat : Hid (0 < n → ∃ b o, la = some ⟨b, o, none⟩ ∧ b < W.heap.size ∧ ∀ k, k < n → FrAt W b (o + k * 5) (L.getD k default)) := Lib.hid fun h0 => by
    rcases hform with h1 | h1
    · exfalso; rw [hn, h1] at h0; simp at h0
    · rw [← hn] at h1; exact h1
  obtain ⟨M, hM⟩ : ∃ M : Nat, (rw : Int) * (rh : Int) = (M : Int) := ⟨rw * rh, by simp⟩
  have hMn : rw * rh = M := by exact_mod_cast hM
  have hM1 : M ≤ 16384 := by omega
  obtain ⟨N, hN⟩ : ∃ N : Nat, N = 4 * M := ⟨_, rfl⟩
  have hNw : 4 * (rw : Int) * (rh : Int) = (N : Int) := by rw [Int.mul_assoc, hM]; omega
  have hmk := fun w => run_makeF w N (by omega)
  have hmb := fun w => run_makeB w M (by omega)
  have HM := Lib.hid (And.intro hM hMn)
  have HN := Lib.hid hN
  have hN1 : N ≤ 65536 := by omega
  clear hr hform hok hn hMn b5 hN
  go_enter Try.func6, Try.ntmps6
  go_upto_region 1 with fail
  refine name_world ?_
  intro w0 hw0
  have x2 : Bx w0 W.heap.size 23 #[.int .i64 x, .int .i64 y, .int .i64 (rw : Int), .int .i64 (rh : Int)] := by rw [hw0]; exact (Bx.new _ _ _).alloc _
  have x4 : Bx w0 (W.heap.size + 1) 26 #[.int .i64 0, .int .i64 0, .int .i64 0, .int .i64 0, .slice none 0 0] := by rw [hw0]; exact Bx.at _ (by simp)
  have B : Below W.heap.size W w0 := by rw [hw0]; exact bnew (bnew (Below.refl _ W))
  clear hw0
  obtain ⟨q2, f2, l2⟩ := x2.all
  go_wp2_with fail
  refine (HC.out _).mono ?_
  rintro e w1 ⟨rfl, hb⟩
  replace x2 := x2.keep hb
  replace x4 := x4.keep hb
  replace B := bcall B hb
  clear hb q2 f2 l2 HC
  obtain ⟨q2, f2, l2⟩ := x2.all
  go_upto_region 4 with fail
  have l4 := x4.lt
  go_cut [7] (fun s7 wx => ∃ p7 g, s7 = .pointer (some ⟨p7, 0, none⟩) ∧ p7 ≠ g ∧ W.heap.size + 2 ≤ p7 ∧ W.heap.size + 2 ≤ g ∧ Bx wx p7 26 #[.int .i64 x, .int .i64 y, .int .i64 (rw : Int), .int .i64 (rh : Int), .slice (some ⟨g, 0, none⟩) N N] ∧ Row wx g N (List.replicate N 0) ∧ (Bx wx W.heap.size 23 #[.int .i64 x, .int .i64 y, .int .i64 (rw : Int), .int .i64 (rh : Int)] ∧ Bx wx (W.heap.size + 1) 26 #[.int .i64 0, .int .i64 0, .int .i64 0, .int .i64 0, .slice none 0 0]) ∧ Below W.heap.size W wx)
  case first =>
    go_region
    all_goals
      go_wp2_with fail
      go_meet
      refine row_new (cf := fun g => #[.int .i64 x, .int .i64 y, .int .i64 (rw : Int), .int .i64 (rh : Int), .slice (some ⟨g, 0, none⟩) N N]) B (by omega) (fun wx => Bx wx W.heap.size 23 #[.int .i64 x, .int .i64 y, .int .i64 (rw : Int), .int .i64 (rh : Int)] ∧ Bx wx (W.heap.size + 1) 26 #[.int .i64 0, .int .i64 0, .int .i64 0, .int .i64 0, .slice none 0 0]) (fun w' hb => ⟨x2.keep hb, x4.keep hb⟩) ?_
      first
        | exact .inl ⟨rfl, rfl⟩
        | exact .inr ⟨rfl, rfl⟩
  case rest =>
    obtain ⟨p7, g, rfl, hne, hp7, hg, x7, xr, ⟨x2, x4⟩, B⟩ := hcut
    clear q2 f2 l2 l4 hmk hNw
    obtain ⟨q2, f2, l2⟩ := x2.all
    have l7 := x7.lt
    have lr := xr.lt
    go_upto_region 6 with fail
    refine name_world ?_
    intro w2 hw2
    have hbb : Below wc.heap.size wc w2 := by rw [hw2]; exact (Below.refl _ _).alloc (Nat.le_refl _) _
    have xb : Bx w2 wc.heap.size 4 (madeCells #[.bool false] M) := by rw [hw2]; exact Bx.new _ _ _
    obtain ⟨gb, hgb⟩ : ∃ gb, gb = wc.heap.size := ⟨_, rfl⟩
    rw [← hgb] at xb l7 lr ⊢
    have ap : JAp W.heap.size p7 g gb := ⟨by omega, by omega, hne, l7, lr⟩
    have st : JSt W x y rw rh p7 g gb N (madeCells #[.bool false] M) (madeL (outP x y rw L 0) N) w2 := by
      rw [out_zero]
      exact ⟨x2.keep hbb, x4.keep hbb, x7.keep hbb, xr.keep hbb, xb, bcall B hbb⟩
    have fs : FullS (madeCells #[.bool false] M) M (fun k => (src L 0 (pOf x y rw k)).isSome) := fun k hk => by show _ = some (Value.bool (src L 0 (pOf x y rw k)).isSome); rw [src_zero]; exact bool_made M k hk
    have Hfs := Lib.hid fs
    clear hw2 hgb xb hbb x2 x4 x7 xr B q2 f2 l2 hmb fs hne hp7 hg l7 lr
    go_wp2_with fail
    go_loopw [9, 39] (fun s9 i wr => ∃ (m : Nat) (cs : Array Value), m ≤ n ∧ i = .int .i64 (m : Int) ∧ s9 = .int .i64 (cntF L m : Int) ∧ Hid (joinTo x y rw rh L m = 0) ∧ Hid (FullS cs M fun k => (src L m (pOf x y rw k)).isSome) ∧ JSt W x y rw rh p7 g gb N cs (madeL (outP x y rw L m) N) wr ∧ Hid ((List.range M).countP (fun k => (src L m (pOf x y rw k)).isSome) = cntF L m)) (fun _ i _ => n - (intOf i).toNat)
    case atStart => exact ⟨0, _, by omega, rfl, rfl, Lib.hid rfl, Hfs, st, Lib.hid (by simp only [src_zero]; simp [cntF])⟩
    case round =>
      clear st Hfs
      obtain ⟨m, cs, hm, rfl, rfl, Hz, Hfs, st, Hcb⟩ := hrel
      obtain ⟨cm, hcm⟩ : ∃ c, c = cntF L m := ⟨_, rfl⟩
      rw [← hcm] at Hcb ⊢
      have Hcm := Lib.hid hcm
      clear hcm
      by_cases hlt : m < n
      · have hmi : (m : Int) < (n : Int) := by omega
        obtain ⟨b, o, rfl, hbl, hat1⟩ := hat.out (by omega)
        obtain ⟨c0, c1, c2, c3, c4⟩ := (hat1 m hlt).keep st.2.2.2.2.2 hbl
        obtain ⟨hsl, hfc, hfm⟩ := (Hok.out m hlt).keep st.2.2.2.2.2
        have HJ : Hid (∀ er : Int, er ≠ 0 → joinAt x y rw rh L m = er → joinErr x y rw rh L = er) := Lib.hid fun er h0 ha => joinErr_at Hr.out (by rw [← Hn.out]; exact hlt) Hz.out h0 ha
        have HJ2 : Hid (joinAt x y rw rh L m = 0 → joinTo x y rw rh L (m + 1) = 0) := Lib.hid fun ha => by rw [joinTo, if_neg (by rw [Hz.out]; simp)]; exact ha
        clear hat1 Hz
        obtain ⟨f, hf⟩ : ∃ f, f = L.getD m default := ⟨_, rfl⟩
        have Hf := Lib.hid hf
        unfold joinAt at HJ HJ2
        rw [← hf] at c0 c1 c2 c3 c4 hsl hfc hfm HJ HJ2
        clear hf
        unfold Fr.pv at c4 hsl
        have hsz := st.2.2.2.2.1.lt
        go_upto_region 10 with fail
        refine name_world ?_
        intro w3 hw3
        obtain ⟨p11, hp11⟩ : ∃ p, p = wr.heap.size := ⟨_, rfl⟩
        have x11 : Bx w3 p11 26 #[.int .i64 f.x, .int .i64 f.y, .int .i64 f.w, .int .i64 f.h, .slice f.a f.V.length f.c] := by rw [hw3, hp11]; exact Bx.new _ _ _
        have hbb : Below wr.heap.size wr w3 := by rw [hw3]; exact (Below.refl _ _).alloc (Nat.le_refl _) _
        replace st := st.keep hbb
        replace hsl := hsl.keep hbb
        rw [show wr.heap.size = p11 from hp11.symm]
        have hpp : gb < p11 := by omega
        clear hbb hw3 c0 c1 c2 c3 c4 hp11 hsz
        obtain ⟨q11, f11, l11⟩ := x11.all
        go_wp2_with fail
        refine (frame_Check _ _ _ _ _ _ _ _ hfm).mono ?_
        rintro e w4 ⟨rfl, hb⟩
        replace st := st.keep hb
        replace x11 := x11.keep hb
        replace hsl := hsl.keep hb
        clear hb q11 f11 l11
        have herr : checkFrame f.x f.y f.w f.h f.V.length = f.err := rfl
        rw [herr]
        clear herr
        obtain ⟨q11, f11, l11⟩ := x11.all
        by_cases hfe : f.err = 0
        rotate_left
        · have HE := Lib.hid (HJ.out f.err hfe (by rw [if_pos hfe]))
          have e0 : (f.err != 0) = true := by simpa using hfe
          have H0 := Lib.hid hfe
          clear hfe HJ HJ2
          generalize f.err = er at *
          obtain ⟨a1, a2, a3, a4, a5⟩ := ap
          obtain ⟨x2, x4, x7, xr, xb, B⟩ := st
          obtain ⟨q4, f4, l4⟩ := x4.all
          clear q11 f11 l11 x11 x2 x7 xr xb
          go_wp2_with fail
          refine bodyPost_ret (v := .tuple #[.agg #[.int .i64 0, .int .i64 0, .int .i64 0, .int .i64 0, .slice none 0 0], .int .i64 er]) (by simp [results, Try.results6, go_sem, q4]) rfl (JoinR.bad HE.out H0.out (bput (by omega) (bput (by omega) (bput (by omega) (bput (by omega) (bput (by omega) (B)))))))
        rw [hfe]
        obtain ⟨hfr, hfn⟩ := Fr.right hfe
        obtain ⟨d1, d2, d3, d4, d5, d6, d7, d8, d9⟩ := checkRegion_ok hfr
        have HIn : Hid (∀ w', Calls Try.prog 17 #[.agg #[.int .i64 f.x, .int .i64 f.y, .int .i64 f.w, .int .i64 f.h], .agg #[.int .i64 x, .int .i64 y, .int .i64 (rw : Int), .int .i64 (rh : Int)]] w' fun e w'' => e = .returned (.bool (inB f.x f.y f.w f.h x y rw rh)) ∧ Below w'.heap.size w' w'') := Lib.hid fun w' => frame_Inside_is _ _ _ _ _ _ _ _ _ rfl w' (by omega) (by omega) (by omega) (by omega) (by omega) (by omega) (by omega) (by omega) (by omega) (by omega) (by omega) (by omega) (by omega) (by omega) (by omega) (by omega)
        obtain ⟨x2, x4, x7, xr, xb, B⟩ := st
        obtain ⟨q2, f2, l2⟩ := x2.all
        go_wp2_with fail
        refine (HIn.out _).mono ?_
        rintro e w5 ⟨rfl, hb⟩
        have st : JSt W x y rw rh p7 g gb N cs (madeL (outP x y rw L m) N) w4 := ⟨x2, x4, x7, xr, xb, B⟩
        replace st := st.keep hb
        replace x11 := x11.keep hb
        replace hsl := hsl.keep hb
        clear hb q11 f11 l11 HIn q2 f2 l2 x2 x4 x7 xr xb B
        obtain ⟨q11, f11, l11⟩ := x11.all
        cases hib : inB f.x f.y f.w f.h x y rw rh
        · have HE := Lib.hid (HJ.out 5 (by decide) (by rw [if_neg (by rw [hfe]; simp), if_pos hib]))
          clear HJ HJ2
          obtain ⟨a1, a2, a3, a4, a5⟩ := ap
          obtain ⟨x2, x4, x7, xr, xb, B⟩ := st
          obtain ⟨q4, f4, l4⟩ := x4.all
          clear q11 f11 l11 x11 x2 x7 xr xb
          go_wp2_with fail
          refine bodyPost_ret (v := .tuple #[.agg #[.int .i64 0, .int .i64 0, .int .i64 0, .int .i64 0, .slice none 0 0], .int .i64 5]) (by simp [results, Try.results6, go_sem, q4]) rfl (JoinR.bad HE.out (by decide) (bput (by omega) (bput (by omega) (bput (by omega) (bput (by omega) (bput (by omega) (B)))))))
        obtain ⟨i1, i2, i3, i4⟩ := inB_true hib
        rw [if_neg (by rw [hfe]; simp), if_neg (by rw [hib]; simp)] at HJ2
        have HJ7 : Hid (dupB L m = true → joinErr x y rw rh L = 7) := Lib.hid fun hd => HJ.out 7 (by decide) (by rw [if_neg (by rw [hfe]; simp), if_neg (by rw [hib]; simp), if_pos hd])
        clear HJ hib
        obtain ⟨fx, hfx⟩ : ∃ z, z = f.x := ⟨_, rfl⟩
        obtain ⟨fy, hfy⟩ : ∃ z, z = f.y := ⟨_, rfl⟩
        obtain ⟨fw, hfw⟩ : ∃ z : Nat, f.w = (z : Int) := ⟨f.w.toNat, by omega⟩
        obtain ⟨fh, hfh⟩ : ∃ z : Nat, f.h = (z : Int) := ⟨f.h.toNat, by omega⟩
        obtain ⟨fn, hfnn⟩ : ∃ z, z = f.V.length := ⟨_, rfl⟩
        have HFa := Lib.hid (And.intro hfw hfh)
        have HFb := Lib.hid (And.intro hfx hfy)
        have HFn := Lib.hid hfnn
        rw [← hfnn] at hfn x11 hfc hfm hsl
        rw [← hfx] at x11 d6 d7 i1 i3
        rw [← hfy] at x11 d8 d9 i2 i4
        rw [hfw] at x11 hfn d1 d2 d5 d7 i3
        rw [hfh] at x11 hfn d3 d4 d5 d9 i4
        clear hfx hfy hfw hfh hfnn hfr hfe q11 f11 l11
        obtain ⟨fa, hfa0⟩ : ∃ z, f.a = z := ⟨_, rfl⟩
        rw [hfa0] at x11
        have HFaa := Lib.hid hfa0
        clear hsl hfa0
        generalize f.c = fc at *
        obtain ⟨q11, f11, l11⟩ := x11.all
        go_wp2_with fail
        obtain ⟨i0, hi0⟩ : ∃ z : Nat, fx = x + z := ⟨(fx - x).toNat, by omega⟩
        obtain ⟨j0, hj0⟩ : ∃ z : Nat, fy = y + z := ⟨(fy - y).toNat, by omega⟩
        have hiw : i0 + fw ≤ rw := by omega
        have hjh : j0 + fh ≤ rh := by omega
        have Hx : Hid ((L.getD m default).x = x + i0) := Lib.hid (by rw [← Hf.out, ← HFb.out.1]; exact hi0)
        have Hy : Hid ((L.getD m default).y = y + j0) := Lib.hid (by rw [← Hf.out, ← HFb.out.2]; exact hj0)
        have Hw : Hid ((L.getD m default).w = fw) := Lib.hid (by rw [← Hf.out]; exact HFa.out.1)
        have Hh : Hid ((L.getD m default).h = fh) := Lib.hid (by rw [← Hf.out]; exact HFa.out.2)
        have Hi0 := Lib.hid hi0
        have Hj0 := Lib.hid hj0
        have Hfn := Lib.hid hfn
        clear hi0 hj0 i1 i2 i3 i4 hfn
        go_loopw [9, 13] (fun s9 s13 wr => ∃ (j q : Nat) (cs : Array Value), j ≤ fh ∧ s13 = .int .i64 (fy + (j : Int)) ∧ s9 = .int .i64 (q : Int) ∧ Hid (q = cm + j * fw) ∧ Hid (∀ j' i', j' < j → i' < fw → src L m (ptAt (L.getD m default) j' i') = none) ∧ Hid (FullS cs M fun k => (srcAt L m j 0 (pOf x y rw k)).isSome) ∧ Hid ((List.range M).countP (fun k => (srcAt L m j 0 (pOf x y rw k)).isSome) = q) ∧ JSt W x y rw rh p7 g gb N cs (madeL (outP x y rw L m) N) wr ∧ Bx wr p11 26 #[.int .i64 fx, .int .i64 fy, .int .i64 (fw : Int), .int .i64 (fh : Int), .slice fa fn fc]) (fun _ s13 _ => (fy + fh - intOf s13).toNat)
        case atStart => exact ⟨0, cm, cs, by omega, by simp, rfl, Lib.hid (by simp), Lib.hid fun j' i' h => by omega, Lib.hid (Hfs.out.congr fun k _ => by rw [srcAt_start]), Lib.hid (by rw [← Hcb.out]; exact count_congr fun k _ => by rw [srcAt_start]), st, x11⟩
        case round =>
          clear st Hfs x11 q11 f11 l11 Hcb
          obtain ⟨j, q, cs, hj, rfl, rfl, Hq, Hno, Hfs, Hct, st, x11⟩ := hrel
          obtain ⟨q11, f11, l11⟩ := x11.all
          by_cases hjl : j < fh
          · have hjl' : (j : Int) < (fh : Int) := by omega
            have hjlt : fy + (j : Int) < fy + (fh : Int) := by omega
            go_wp2_with fail
            go_loopw [9, 14] (fun s9 s14 wr => ∃ (i q : Nat) (cs : Array Value), i ≤ fw ∧ s14 = .int .i64 (fx + (i : Int)) ∧ s9 = .int .i64 (q : Int) ∧ Hid (q = cm + (j * fw + i)) ∧ Hid (∀ i', i' < i → src L m (ptAt (L.getD m default) j i') = none) ∧ Hid (FullS cs M fun k => (srcAt L m j i (pOf x y rw k)).isSome) ∧ Hid ((List.range M).countP (fun k => (srcAt L m j i (pOf x y rw k)).isSome) = q) ∧ JSt W x y rw rh p7 g gb N cs (madeL (outP x y rw L m) N) wr ∧ Bx wr p11 26 #[.int .i64 fx, .int .i64 fy, .int .i64 (fw : Int), .int .i64 (fh : Int), .slice fa fn fc]) (fun _ s14 _ => (fx + fw - intOf s14).toNat)
            case atStart => exact ⟨0, q, cs, by omega, by simp, rfl, Lib.hid (by rw [Hq.out, Nat.add_zero]), Lib.hid fun i' h => by omega, Hfs, Hct, st, x11⟩
            case round =>
              clear st Hfs x11 q11 f11 l11 Hct Hq
              obtain ⟨i, q, cs, hi, rfl, rfl, Hq, Hno2, Hfs, Hct, st, x11⟩ := hrel
              obtain ⟨q11, f11, l11⟩ := x11.all
              by_cases hil : i < fw
              · have hilt : fx + (i : Int) < fx + (fw : Int) := by omega
                have hk0 : Hid ((j0 + j) * rw + (i0 + i) < M) := Lib.hid (by have := place_lt (j := j0 + j) (i := i0 + i) (w := rw) (h := rh) (by omega) (by omega); rw [HM.out.2] at this; exact this)
                obtain ⟨k0, hkk⟩ : ∃ k0, k0 = (j0 + j) * rw + (i0 + i) := ⟨_, rfl⟩
                rw [← hkk] at hk0
                have HK := Lib.hid hkk
                have hk0' : k0 < M := hk0.out
                have HO : Hid (∀ w', Calls Try.prog 18 #[.agg #[.int .i64 x, .int .i64 y, .int .i64 (rw : Int), .int .i64 (rh : Int)], .int .i64 (fx + (i : Int)), .int .i64 (fy + (j : Int))] w' fun e w'' => e = .returned (.int .i64 ((4 * k0 : Nat) : Int)) ∧ Below w'.heap.size w' w'') := Lib.hid fun w' => frame_offset_at x y rw rh _ _ (i0 + i) (j0 + j) (4 * k0) (by rw [Hi0.out]; omega) (by rw [Hj0.out]; omega) (by rw [hkk]) w' (by omega) (by omega) (by omega) (by omega) (by omega) (by omega) (by omega)
                clear hkk hk0
                have hqm : q ≤ M := by rw [← Hct.out]; exact count_le _ _
                obtain ⟨x2, x4, x7, xr, xb, B⟩ := st
                obtain ⟨q2, f2, l2⟩ := x2.all
                go_wp2_with fail
                refine (HO.out _).mono ?_
                rintro e w6 ⟨rfl, hb⟩
                have st : JSt W x y rw rh p7 g gb N cs (madeL (outP x y rw L m) N) wr := ⟨x2, x4, x7, xr, xb, B⟩
                replace st := st.keep hb
                replace x11 := x11.keep hb
                clear hb q11 f11 l11 HO q2 f2 l2 x2 x4 x7 xr xb B
                have hpl := place_here (x := x) (y := y) (w := rw) (j := j) (i := i) Hx.out Hy.out (by omega)
                rw [← HK.out] at hpl
                have hcell := Hfs.out k0 hk0'
                simp only [hpl, srcAt_here] at hcell
                obtain ⟨x2, x4, x7, xr, xb, B⟩ := st
                have hce : w6.cell? ⟨gb, k0, none⟩ = _ := (xb.all.1 k0).trans hcell
                have hfz := xb.all.2.1 k0
                have hlb := xb.lt
                have hq4 : Int.tdiv (((4 * k0 : Nat) : Int)) 4 = (k0 : Int) := by rw [Int.natCast_mul]; exact Int.mul_tdiv_cancel_left _ (by decide)
                clear hcell
                cases hs : (src L m (ptAt (L.getD m default) j i)).isSome
                · rw [hs] at hce
                  have hq3 : q + 1 ≤ M := by
                    have hz := (count_set (M := M) (F := fun k => (srcAt L m j i (pOf x y rw k)).isSome) (G := fun k => (srcAt L m j (i + 1) (pOf x y rw k)).isSome) hk0' (by simp only [hpl, srcAt_here, hs]) (fun k _ => by rw [HK.out]; exact place_step Hw.out Hh.out Hx.out Hy.out hil hjl hiw k))
                    rw [← Hct.out, ← hz]; exact count_le _ _
                  have Hz2 : Hid ((List.range M).countP (fun k => (srcAt L m j (i + 1) (pOf x y rw k)).isSome) = q + 1) := Lib.hid (by rw [← Hct.out]; exact count_set hk0' (by simp only [hpl, srcAt_here, hs]) (fun k _ => by rw [HK.out]; exact place_step Hw.out Hh.out Hx.out Hy.out hil hjl hiw k))
                  have Hfs2 : Hid (FullS (cs.setIfInBounds k0 (.bool true)) M fun k => (srcAt L m j (i + 1) (pOf x y rw k)).isSome) := Lib.hid (Hfs.out.set hk0' fun k _ => by rw [HK.out]; exact place_step Hw.out Hh.out Hx.out Hy.out hil hjl hiw k)
                  have Hno3 : Hid (∀ i', i' < i + 1 → src L m (ptAt (L.getD m default) j i') = none) := Lib.hid fun i' h1 => by
                    rcases Nat.lt_or_eq_of_le (Nat.le_of_lt_succ h1) with h | rfl
                    · exact Hno2.out i' h
                    · cases hz : src L m (ptAt (L.getD m default) j i') with
                      | none => rfl
                      | some z => rw [hz] at hs; cases hs
                  have Hq2 : Hid (q + 1 = cm + (j * fw + (i + 1))) := Lib.hid (by rw [Hq.out]; omega)
                  clear Hct Hfs Hno2 Hq hs hpl
                  go_upto_region 25 with fail
                  refine name_world ?_
                  intro w7 hw7
                  have st : JSt W x y rw rh p7 g gb N (cs.setIfInBounds k0 (.bool true)) (madeL (outP x y rw L m) N) w7 := by rw [hw7]; exact JSt.fill ⟨x2, x4, x7, xr, xb, B⟩ ap
                  replace x11 : Bx w7 p11 26 #[.int .i64 fx, .int .i64 fy, .int .i64 (fw : Int), .int .i64 (fh : Int), .slice fa fn fc] := by rw [hw7]; exact (Bx.other x11 _ _ (by first | omega | (simp; done) | (simp; omega)))
                  clear hw7 hce hfz hlb x2 x4 x7 xr xb B hq4 HK hk0'
                  go_wp2_with fail
                  go_roundw
                  case rel => exact ⟨i + 1, q + 1, _, by omega, by go_num, by go_num, Hq2, Hno3, Hfs2, Hz2, st, x11⟩
                  case measure => simp [intOf]; omega
                · rw [hs] at hce
                  have HE := Lib.hid (HJ7.out (dup_of (j := j) (i := i) (by rw [Hh.out]; omega) (by rw [Hw.out]; omega) hs))
                  obtain ⟨a1, a2, a3, a4, a5⟩ := ap
                  obtain ⟨q4, f4, l4⟩ := x4.all
                  clear Hct Hfs Hno2 Hq hs hpl x11 x2 x7 xr
                  go_wp2_with fail
                  refine bodyPost_ret (v := .tuple #[.agg #[.int .i64 0, .int .i64 0, .int .i64 0, .int .i64 0, .slice none 0 0], .int .i64 7]) (by simp [results, Try.results6, go_sem, q4]) rfl (JoinR.bad HE.out (by decide) (bput (by omega) (bput (by omega) (bput (by omega) (bput (by omega) (bput (by omega) (B)))))))

              · obtain rfl : i = fw := by omega
                have Hq2 : Hid (q = cm + (j + 1) * i) := Lib.hid (by rw [Hq.out, Nat.add_mul, Nat.one_mul])
                have Hno3 : Hid (∀ j' i', j' < j + 1 → i' < i → src L m (ptAt (L.getD m default) j' i') = none) := Lib.hid fun j' i' h1 h2 => by
                  rcases Nat.lt_or_eq_of_le (Nat.le_of_lt_succ h1) with h | rfl
                  · exact Hno.out j' i' h h2
                  · exact Hno2.out i' h2
                have Hfs2 : Hid (FullS cs M fun k => (srcAt L m (j + 1) 0 (pOf x y rw k)).isSome) := Lib.hid (Hfs.out.congr fun k _ => by rw [srcAt_row _ _ _ _ _ Hw.out])
                have Hct2 : Hid ((List.range M).countP (fun k => (srcAt L m (j + 1) 0 (pOf x y rw k)).isSome) = q) := Lib.hid (by rw [← Hct.out]; exact count_congr fun k _ => by rw [srcAt_row _ _ _ _ _ Hw.out])
                clear Hno Hno2 Hfs Hct Hq
                go_wp2_with fail
                go_roundw
                case rel => exact ⟨j + 1, q, cs, by omega, by go_num, rfl, Hq2, Hno3, Hfs2, Hct2, st, x11⟩
                case measure => simp [intOf]; omega
          · obtain rfl : j = fh := by omega
            have Hd : Hid (dupB L m = false) := Lib.hid (dup_not fun j' i' h1 h2 => Hno.out j' i' (by rw [Hh.out] at h1; omega) (by rw [Hw.out] at h2; omega))
            have Hz2 : Hid (joinTo x y rw rh L (m + 1) = 0) := Lib.hid (HJ2.out (by rw [if_neg (by rw [Hd.out]; simp)]))
            have Hcm2 : Hid (q = cntF L (m + 1)) := Lib.hid (by rw [cntF_succ L m fw j Hw.out Hh.out, ← Hcm.out]; exact Hq.out)
            have Hfs2 : Hid (FullS cs M fun k => (src L (m + 1) (pOf x y rw k)).isSome) := Lib.hid (Hfs.out.congr fun k _ => by rw [srcAt_end _ _ _ _ (by rw [← Hn.out]; exact hlt) Hh.out])
            have Hct2 : Hid ((List.range M).countP (fun k => (src L (m + 1) (pOf x y rw k)).isSome) = cntF L (m + 1)) := Lib.hid (by rw [← Hcm2.out, ← Hct.out]; exact count_congr fun k _ => by rw [srcAt_end _ _ _ _ (by rw [← Hn.out]; exact hlt) Hh.out])
            have Hos : Hid (copyL (madeL (outP x y rw L m) N) f.V rw rh fw i0 j0 0 0 fw j j 0 = madeL (outP x y rw L (m + 1)) N) := Lib.hid (by
              have h1 := out_step x y rw rh L m fw j i0 j0 (by rw [← Hn.out]; exact hlt) Hw.out Hh.out Hx.out Hy.out hiw hjh Hd.out
              rw [HM.out.2, ← HN.out, ← Hf.out] at h1
              exact h1)
            clear Hno Hd Hq Hct Hfs HJ2
            obtain ⟨b2, o2, hfa, hb2l, hrd2⟩ : ∃ b2 o2, fa = some ⟨b2, o2, none⟩ ∧ b2 < W.heap.size ∧ Rd W b2 o2 f.V := by
              obtain ⟨hs1, _, _⟩ := Hok.out m hlt
              rw [← Hf.out] at hs1
              unfold Fr.pv at hs1
              rw [← HFn.out] at hs1
              rcases hs1 with ⟨b2, o2, c2, h1, h2, h3⟩ | ⟨h1, _⟩
              · injection h1 with h1
                exact ⟨b2, o2, HFaa.out.symm.trans h1, h3.lt, h3⟩
              · exfalso
                have h4 := HFn.out
                rw [h1] at h4
                have h5 := Hfn.out
                have h6 := Int.mul_pos (show (0 : Int) < 4 * (fw : Int) by omega) (show (0 : Int) < (j : Int) by omega)
                simp at h4
                omega
            subst hfa
            obtain ⟨hmeet, hcom⟩ := meet_in (x := x) (y := y) (w := rw) (h := rh) (fw := fw) (fh := j) Hi0.out Hj0.out hiw hjh (by omega) (by omega)
            have hfnn : fn = 4 * (fw * j) := by have := Hfn.out; rw [Int.mul_assoc] at this; exact_mod_cast this
            have HCo : Hid (∀ w', Row w' g N (madeL (outP x y rw L m) N) → Rd w' b2 o2 f.V → Calls Try.prog 19 #[.agg #[.int .i64 x, .int .i64 y, .int .i64 (rw : Int), .int .i64 (rh : Int), .slice (some ⟨g, 0, none⟩) N N], .agg #[.int .i64 fx, .int .i64 fy, .int .i64 (fw : Int), .int .i64 (j : Int), .slice (some ⟨b2, o2, none⟩) fn fc]] w' fun e w'' => e = .returned (.tuple #[]) ∧ Row w'' g N (madeL (outP x y rw L (m + 1)) N) ∧ Off g w'.heap.size w' w'') := Lib.hid fun w' h1 h2 => by
              rw [← Hos.out]
              obtain ⟨a1, a2, a3, a4, a5⟩ := ap
              exact frame_copyInto x y fx fy rw rh fw j i0 j0 0 0 fw j g b2 o2 N N fn fc (madeL (outP x y rw L m) N) f.V w' (by omega) (by omega) (by omega) (by omega) (by omega) (by omega) (by omega) (by omega) (by omega) (by omega) (by omega) (by omega) hmeet hcom (by rw [HM.out.2]; exact HN.out) hfnn h1.len (by rw [← HFn.out]) h1 h2 (by omega)
            have Hrd := Lib.hid hrd2
            clear hmeet hcom hfnn hrd2 Hos
            obtain ⟨x2, x4, x7, xr, xb, B⟩ := st
            obtain ⟨q7, f7, l7⟩ := x7.all
            go_wp2_with fail
            refine (HCo.out _ xr (Hrd.out.keep B)).mono ?_
            rintro e w6 ⟨rfl, hr2, ho⟩
            have st : JSt W x y rw rh p7 g gb N cs (madeL (outP x y rw L (m + 1)) N) w6 := JSt.copy ⟨x2, x4, x7, xr, xb, B⟩ ap hr2 ho
            clear hr2 ho HCo Hrd x2 x4 x7 xr xb B q7 f7 l7 q11 f11 l11 x11
            go_wp2_with fail
            go_roundw
            case rel => exact ⟨m + 1, cs, by omega, by go_num, by rw [Hcm2.out], Hz2, Hfs2, st, Hct2⟩
            case measure => simp [intOf]; omega


      · obtain rfl : m = n := by omega
        have HE : Hid (joinErr x y rw rh L = if cm < M then 10 else 0) := Lib.hid (by
          rw [joinErr_end Hr.out (by rw [← Hn.out]; exact Hz.out), ← Hn.out, ← Hcm.out, HM.out.1]
          by_cases h : cm < M
          · rw [if_pos h, if_pos (by omega)]
          · rw [if_neg h, if_neg (by omega)])
        clear Hfs Hz Hcb
        obtain ⟨a1, a2, a3, a4, a5⟩ := ap
        obtain ⟨x2, x4, x7, xr, xb, B⟩ := st
        obtain ⟨q4, f4, l4⟩ := x4.all
        obtain ⟨q7, f7, l7⟩ := x7.all
        by_cases hcM : cm < M
        · have hcM' : (cm : Int) < (M : Int) := by omega
          have H10 : Hid (joinErr x y rw rh L = 10) := Lib.hid (by rw [HE.out, if_pos hcM])
          clear HE xr xb
          go_wp2_with fail
          refine bodyPost_ret (v := .tuple #[.agg #[.int .i64 0, .int .i64 0, .int .i64 0, .int .i64 0, .slice none 0 0], .int .i64 10]) (by simp [results, Try.results6, go_sem, q4]) rfl (JoinR.bad H10.out (by decide) (bput (by omega) (bput (by omega) (bput (by omega) (bput (by omega) (bput (by omega) (B)))))))
        · have hcM' : ¬ (cm : Int) < (M : Int) := by omega
          have H0 : Hid (joinErr x y rw rh L = 0) := Lib.hid (by rw [HE.out, if_neg hcM])
          have XR := Lib.hid xr
          clear HE xb xr
          go_wp2_with fail
          refine bodyPost_ret (v := .tuple #[.agg #[.int .i64 x, .int .i64 y, .int .i64 (rw : Int), .int .i64 (rh : Int), .slice (some ⟨g, 0, none⟩) N N], .int .i64 0]) (by simp [results, Try.results6, go_sem, q4]) rfl (JoinR.good H0.out (by rw [HM.out.2]; exact HN.out) (Nat.le_refl _) (by omega) ?_ (bput (by omega) (bput (by omega) (bput (by omega) (bput (by omega) (bput (by omega) (B)))))))
          have h := XR.out.rd
          rw [Hn.out] at h
          exact Only.rd (b := W.heap.size + 1) ((((((Only.refl _ _).set _ _).set _ _).set _ _).set _ _).set _ _) (by omega) h

end Go.Proofs.Ytccbhghpghijiaa
