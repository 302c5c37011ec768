/- RegionsMatch, walked. -/
import Derived.Test.YtoffnmpnhddaiaaTilT
import Derived.Test.YtoffnmpnhddaiaaTail
namespace Go.Proofs.Ytoffnmpnhddaiaa
open Go.RowKit

theorem frame_CheckRegion_at (x y w h k : Int) (hv : checkRegion x y w h = k) (W : World) : Calls Try.prog 32 #[.agg #[.int .i64 x, .int .i64 y, .int .i64 w, .int .i64 h]] W fun e w' => e = .returned (.int .i64 k) ∧ Below W.heap.size W w' := by
  rw [← hv]
  exact frame_CheckRegion x y w h W
theorem ref_RegionError_at (x y w h k : Int) (hv : checkRegion x y w h = k) (W : World) : Calls Try.prog 31 #[.agg #[.int .i64 x, .int .i64 y, .int .i64 w, .int .i64 h]] W fun e w' => e = .returned (.int .i64 k) ∧ Below W.heap.size W w' := by
  rw [← hv]
  exact ref_RegionError x y w h W

theorem frame_Inside_at (ax ay aw ah bx b_y bw bh : Int) (r : Bool) (hv : inB ax ay aw ah bx b_y bw bh = r) (W : World) (h1 : -10000000 ≤ bx) (h2 : bx ≤ 10000000) (h3 : -10000000 ≤ b_y) (h4 : b_y ≤ 10000000) (h5 : 0 ≤ bw) (h6 : bw ≤ 1000) (h7 : 0 ≤ bh) (h8 : bh ≤ 1000) (h9 : 0 ≤ aw) (h10 : aw ≤ 1000) (h11 : 0 ≤ ah) (h12 : ah ≤ 1000) (g1 : -10000000 ≤ ax) (g2 : ax ≤ 10000000) (g3 : -10000000 ≤ ay) (g4 : ay ≤ 10000000) :
    Calls Try.prog 40 #[.agg #[.int .i64 ax, .int .i64 ay, .int .i64 aw, .int .i64 ah], .agg #[.int .i64 bx, .int .i64 b_y, .int .i64 bw, .int .i64 bh]] W fun e w' => e = .returned (.bool r) ∧ Below W.heap.size W w' := by
  rw [← hv]
  exact frame_Inside ax ay aw ah bx b_y bw bh W h1 h2 h3 h4 h5 h6 h7 h8 h9 h10 h11 h12 g1 g2 g3 g4
theorem ref_Inside_at (ax ay aw ah bx b_y bw bh : Int) (r : Bool) (hv : inB ax ay aw ah bx b_y bw bh = r) (W : World) (h1 : -10000000 ≤ bx) (h2 : bx ≤ 10000000) (h3 : -10000000 ≤ b_y) (h4 : b_y ≤ 10000000) (h5 : 0 ≤ bw) (h6 : bw ≤ 1000) (h7 : 0 ≤ bh) (h8 : bh ≤ 1000) (h9 : 0 ≤ aw) (h10 : aw ≤ 1000) (h11 : 0 ≤ ah) (h12 : ah ≤ 1000) :
    Calls Try.prog 21 #[.agg #[.int .i64 ax, .int .i64 ay, .int .i64 aw, .int .i64 ah], .agg #[.int .i64 bx, .int .i64 b_y, .int .i64 bw, .int .i64 bh]] W fun e w' => e = .returned (.bool r) ∧ Below W.heap.size W w' := by
  rw [← hv]
  exact ref_Inside ax ay aw ah bx b_y bw bh W h1 h2 h3 h4 h5 h6 h7 h8 h9 h10 h11 h12

set_option maxRecDepth 100000 in
set_option maxHeartbeats 4000000 in
theorem law_Regions (x y w h c1 c2 c3 c4 n m : Int) (W : World) :
    Calls Try.prog 6 #[.agg #[.int .i64 x, .int .i64 y, .int .i64 w, .int .i64 h], .agg #[.int .i64 c1, .int .i64 c2, .int .i64 c3, .int .i64 c4], .int .i64 n, .int .i64 m] W fun e w' =>
      e = .returned (.bool true) ∧ Below W.heap.size W w' := by
  obtain ⟨k, hk⟩ : ∃ k, checkRegion x y w h = k := ⟨_, rfl⟩
  obtain ⟨k2, hk2⟩ : ∃ k, checkRegion c1 c2 c3 c4 = k := ⟨_, rfl⟩
  obtain ⟨g1, g2, g3, g4, ge, hg⟩ : ∃ a b c d e, growOf x y w h n = ((a, b, c, d), e) := ⟨_, _, _, _, _, rfl⟩
  have Hk := Lib.hid hk
  have Hk2 := Lib.hid hk2
  have Hg := Lib.hid hg
  clear hk hk2 hg
  go_enter Try.func6, Try.ntmps6
  go_wp2_with (go_at_call 15; refine (law_landed _).mono ?_; rintro e w' ⟨rfl, rfl⟩)
  refine name_world ?_
  intro wb hwb
  have x0 : Bx wb W.heap.size 23 #[.int .i64 x, .int .i64 y, .int .i64 w, .int .i64 h] := by rw [hwb]; exact Bx.alloc (Bx.new _ _ _) _
  have x1 : Bx wb (W.heap.size + 1) 23 #[.int .i64 c1, .int .i64 c2, .int .i64 c3, .int .i64 c4] := by rw [hwb]; exact Bx.at _ (alloc_sz' _ _)
  have B1 : Below W.heap.size W wb := by rw [hwb]; exact bnew (bnew (Below.refl _ W))
  clear hwb
  have l1 := x1.lt
  obtain ⟨q0, f0, l0⟩ := x0.all
  have e0 : W.heap.size < W.heap.size + 2 := by omega
  refine wp_region_all (fun z : BW (W.heap.size + 2) wb => z.w) (by kernel_rfl) (by kernel_rfl) (BW.start _ _) rfl ?_
  repeat (go_big_quiet_step (first
    | (go_at_call 32; exact BW.call (by omega) _ (frame_CheckRegion_at _ _ _ _ _ Hk.out _))
    | (go_at_call 31; exact BW.call (by omega) _ (ref_RegionError_at _ _ _ _ _ Hk.out _))))
  refine wpQuiet_nil ?_
  intro z
  have hz := z.below
  have y0 := x0.below hz e0
  have y1 := x1.below hz (by omega)
  have B2 : Below W.heap.size W z.w := B1.trans (hz.mono (by omega))
  generalize z.w = wz at *
  clear x0 x1 B1 l1 q0 f0 l0 e0 hz
  clear z
  obtain ⟨q0, f0, l0⟩ := y0.all
  go_wp2_with fail
  refine (frame_Grow_at _ _ _ _ _ _ _ _ _ _ Hg.out _).mono ?_
  rintro e w1 ⟨rfl, hb1⟩
  have z0 := y0.keep hb1
  have z1 := y1.keep hb1
  have B3 := bcall B2 hb1
  clear y0 y1 B2 q0 f0 l0 hb1
  obtain ⟨q0, f0, l0⟩ := z0.all
  go_wp2_with fail
  refine name_callw ?_
  intro w2 hw2
  have y0 := z0.alloc (.cells #[.int .i64 g1, .int .i64 g2, .int .i64 g3, .int .i64 g4] 23)
  have y1 := z1.alloc (.cells #[.int .i64 g1, .int .i64 g2, .int .i64 g3, .int .i64 g4] 23)
  have y2 := Bx.new w1 23 #[.int .i64 g1, .int .i64 g2, .int .i64 g3, .int .i64 g4]
  have B2 := bnew (ob := .cells #[.int .i64 g1, .int .i64 g2, .int .i64 g3, .int .i64 g4] 23) B3
  rw [← hw2] at y0 y1 y2 B2
  clear hw2 z0 z1 B3 q0 f0 l0
  generalize w1.heap.size = b9 at *
  clear w1
  refine (ref_Grow_at _ _ _ _ _ _ _ _ _ _ Hg.out _).mono ?_
  rintro e w1 ⟨rfl, hb1⟩
  have z0 := y0.keep hb1
  have z1 := y1.keep hb1
  have z2 := y2.keep hb1
  have B3 := bcall B2 hb1
  clear y0 y1 y2 B2 hb1
  obtain ⟨q0, f0, l0⟩ := z0.all
  obtain ⟨q2, f2, l2⟩ := z2.all
  go_wp2_with fail
  refine name_callw ?_
  intro w3 hw3
  have y0 := z0.alloc (.cells #[.int .i64 g1, .int .i64 g2, .int .i64 g3, .int .i64 g4] 23)
  have y1 := z1.alloc (.cells #[.int .i64 g1, .int .i64 g2, .int .i64 g3, .int .i64 g4] 23)
  have B2 := bnew (ob := .cells #[.int .i64 g1, .int .i64 g2, .int .i64 g3, .int .i64 g4] 23) B3
  rw [← hw3] at y0 y1 B2
  clear hw3 z0 z1 z2 B3 q0 f0 l0 q2 f2 l2 Hg
  obtain ⟨te, hte⟩ : ∃ k, tErr x y w h m = k := ⟨_, rfl⟩
  obtain ⟨N, hN⟩ : ∃ k, tMany x y w h m = k := ⟨_, rfl⟩
  have hN6 := tMany_le x y w h m
  refine (frame_TilesT _ _ _ _ _ _).mono ?_
  rw [hte, hN]
  rw [hN] at hN6
  rintro e w4 ⟨v, rfl, hv, hb4⟩
  have z0 := y0.keep hb4
  have z1 := y1.keep hb4
  have B3 := bcall B2 hb4
  have s1 := rgS_of hv
  clear y0 y1 B2 hb4 hv
  obtain ⟨q0, f0, l0⟩ := z0.all
  go_wp2_with fail
  refine (ref_TilesT _ _ _ _ _ _).mono ?_
  rw [hte, hN]
  rintro e w5 ⟨u, rfl, hu, hb5⟩
  have y0 := z0.keep hb5
  have y1 := z1.keep hb5
  have B2 := bcall B3 hb5
  have s3 := s1.keep hb5
  have s2 := rgS_of hu
  clear z0 z1 B3 hb5 hu s1 q0 f0 l0
  obtain ⟨q0, f0, l0⟩ := y0.all
  go_wp2_with fail
  refine (slices_EqualR _ _ N _ _ (by omega) s3 s2).mono ?_
  rintro e w6 ⟨rfl, hb6⟩
  have z0 := y0.keep hb6
  have z1 := y1.keep hb6
  have B3 := bcall B2 hb6
  have s1 := s3.keep hb6
  clear y0 y1 B2 hb6 s3 s2 q0 f0 l0
  obtain ⟨q0, f0, l0⟩ := z0.all
  obtain ⟨va, vc, rfl⟩ : ∃ a c, v = .slice a N c := by
    rcases s1 with ⟨rfl, a, c, rfl⟩ | ⟨g, c, rfl, _⟩
    · exact ⟨_, _, rfl⟩
    · exact ⟨_, _, rfl⟩
  go_wp2_with fail
  have Hte := Lib.hid hte
  have HN := Lib.hid hN
  clear hte hN
  go_loopw [15, 72] (fun s i wr => ∃ a : Nat, a ≤ N ∧ i = .int .i64 a ∧ s = .int .i64 (pre (fun k => area (tileNo x y w h m k)) a) ∧ Below w6.heap.size w6 wr) (fun _ i _ => N - (intOf i).toNat)
  case atStart => exact ⟨0, by omega, rfl, rfl, Below.refl _ _⟩
  case round =>
    obtain ⟨a, ha, rfl, rfl, hbl⟩ := hrel
    by_cases hlt : a < N
    · have ht0 : te = 0 := by
        have h1 := HN.out
        unfold tMany at h1
        rw [Hte.out] at h1
        by_cases h0 : te = 0
        · exact h0
        · rw [if_neg h0] at h1; omega
      have hNc : N = cnt y h m * cnt x w m := by
        have h1 := HN.out
        unfold tMany at h1
        rw [Hte.out, if_pos ht0] at h1
        exact h1.symm
      obtain ⟨hc, m1, m2⟩ := tErr_zero (Hte.out.trans ht0)
      obtain ⟨a1, a2, a3, a4, _⟩ := checkRegion_zero hc
      obtain ⟨u1, u2, u3, u4⟩ := tile_bd x y w h m a (by omega) m2 (by omega) a1 a3
      obtain ⟨v1, v2⟩ := area_bd x y w h m a (by omega) m2 a1 a3 (by omega)
      have hwr := wrap_mul _ _ u1 u2 u3 u4
      have hmb := mul_bd _ _ u1 u2 u3 u4
      have hps : pre (fun k => area (tileNo x y w h m k)) (a + 1) = pre (fun k => area (tileNo x y w h m k)) a + (tileNo x y w h m a).2.2.1 * (tileNo x y w h m a).2.2.2 := rfl
      have hs := s1.keep hbl
      obtain ⟨gv, rfl⟩ : ∃ g, va = some ⟨g, 0, none⟩ := by
        rcases s1 with ⟨h0, _⟩ | ⟨g, c, e, _⟩
        · omega
        · cases e; exact ⟨_, rfl⟩
      have hcell : wr.cell? ⟨gv, a * 4, none⟩ = some (.int .i64 (tileNo x y w h m a).1) ∧ wr.cell? ⟨gv, a * 4 + 1, none⟩ = some (.int .i64 (tileNo x y w h m a).2.1) ∧ wr.cell? ⟨gv, a * 4 + 2, none⟩ = some (.int .i64 (tileNo x y w h m a).2.2.1) ∧ wr.cell? ⟨gv, a * 4 + 3, none⟩ = some (.int .i64 (tileNo x y w h m a).2.2.2) := by
        rcases hs with ⟨h0, _⟩ | ⟨g, c, e, _, _, h4⟩
        · omega
        · cases e; exact h4 a hlt
      obtain ⟨p1, p2, p3, p4⟩ := hcell
      have Hps := Lib.hid hps
      clear hps
      generalize pre (fun k => area (tileNo x y w h m k)) a = S at *
      generalize (tileNo x y w h m a).1 = t1 at *
      generalize (tileNo x y w h m a).2.1 = t2 at *
      generalize (tileNo x y w h m a).2.2.1 = t3 at *
      generalize (tileNo x y w h m a).2.2.2 = t4 at *
      have hai : (a : Int) < (N : Int) := by omega
      clear hs hc a1 a2 a3 a4 m1 m2 ht0 hNc
      obtain ⟨hm1, hm2⟩ := hmb
      go_wp2_with fail
      go_roundw
      case rel => exact ⟨a + 1, by omega, by go_num, by rw [Hps.out], bnew hbl⟩
      case measure => simp [intOf]; omega
    · have haN : a = N := by omega
      subst haN
      have hall : te = 0 → pre (fun k => area (tileNo x y w h m k)) a = w * h ∧ wrap64 (w * h) = w * h ∧ k = 0 := by
        intro h0
        obtain ⟨hc, m1, m2⟩ := tErr_zero (Hte.out.trans h0)
        obtain ⟨a1, a2, a3, a4, _⟩ := checkRegion_zero hc
        have h1 := HN.out
        unfold tMany at h1
        rw [Hte.out, if_pos h0] at h1
        rw [← h1]
        exact ⟨area_all x y w h m (by omega) a1 a3, wrap_mul w h a1 a2 a3 a4, Hk.out.symm.trans hc⟩
      generalize pre (fun k => area (tileNo x y w h m k)) a = S at *
      have y0 := z0.below hbl l0
      have y1 := z1.below hbl z1.lt
      have B4 : Below W.heap.size W wr := B3.trans (hbl.mono B3.size)
      clear z0 z1 q0 f0 l0 hbl B3 s1
      obtain ⟨q0, f0, l0⟩ := y0.all
      obtain ⟨q1, f1, l1⟩ := y1.all
      by_cases h0 : te = 0
      all_goals
        first
          | (obtain ⟨hS, hwr, hk0⟩ := hall h0
             subst h0
             rw [← hwr] at hS
             subst hS
             clear hwr hall hk0)
          | clear hall
        go_wp2_with fail
        refine (ref_RegionError_at _ _ _ _ _ Hk.out _).mono ?_
        rintro e w7 ⟨rfl, hb7⟩
        have z0 := y0.keep hb7
        have z1 := y1.keep hb7
        have B5 := bcall B4 hb7
        clear y0 y1 q0 f0 l0 q1 f1 l1 hb7 B4 Hte HN
        obtain ⟨q0, f0, l0⟩ := z0.all
        obtain ⟨q1, f1, l1⟩ := z1.all
        by_cases hk0 : k = 0
        · subst hk0
          go_wp2_with fail
          refine (ref_RegionError_at _ _ _ _ _ Hk2.out _).mono ?_
          rintro e w8 ⟨rfl, hb8⟩
          have y0 := z0.keep hb8
          have y1 := z1.keep hb8
          have B6 := bcall B5 hb8
          clear z0 z1 q0 f0 l0 q1 f1 l1 hb8 B5
          obtain ⟨q0, f0, l0⟩ := y0.all
          obtain ⟨q1, f1, l1⟩ := y1.all
          by_cases hk2 : k2 = 0
          · subst hk2
            obtain ⟨a1, a2, a3, a4, a5, a6, a7, a8, a9⟩ := checkRegion_zero Hk.out
            obtain ⟨b1, b2, b3, b4, b5, b6, b7, b8, b9'⟩ := checkRegion_zero Hk2.out
            obtain ⟨d1, d2, d3, d4, dr, hd⟩ : ∃ a b c d e, commonOf x y w h c1 c2 c3 c4 = ((a, b, c, d), e) := ⟨_, _, _, _, _, rfl⟩
            have Hd := Lib.hid hd
            clear hd a5 b5
            go_wp2_with fail
            refine (frame_Common_at _ _ _ _ _ _ _ _ _ _ _ _ _ Hd.out _ (by omega) (by omega) (by omega) (by omega) (by omega) (by omega) (by omega) (by omega) (by omega) (by omega) (by omega) (by omega) (by omega) (by omega) (by omega) (by omega)).mono ?_
            rintro e w9 ⟨rfl, hb9⟩
            have z0 := y0.keep hb9
            have z1 := y1.keep hb9
            have B7 := bcall B6 hb9
            clear y0 y1 q0 f0 l0 q1 f1 l1 hb9 B6
            obtain ⟨q0, f0, l0⟩ := z0.all
            obtain ⟨q1, f1, l1⟩ := z1.all
            go_wp2_with fail
            refine name_callw ?_
            intro wp hwp
            have y0 := z0.alloc (.cells #[.int .i64 d1, .int .i64 d2, .int .i64 d3, .int .i64 d4] 23)
            have y1 := z1.alloc (.cells #[.int .i64 d1, .int .i64 d2, .int .i64 d3, .int .i64 d4] 23)
            have y2 := Bx.new w9 23 #[.int .i64 d1, .int .i64 d2, .int .i64 d3, .int .i64 d4]
            have B6 := bnew (ob := .cells #[.int .i64 d1, .int .i64 d2, .int .i64 d3, .int .i64 d4] 23) B7
            rw [← hwp] at y0 y1 y2 B6
            clear hwp z0 z1 B7 q0 f0 l0 q1 f1 l1
            generalize w9.heap.size = b18 at *
            clear w9
            refine (ref_Common_at _ _ _ _ _ _ _ _ _ _ _ _ _ Hd.out _ (by omega) (by omega) (by omega) (by omega) (by omega) (by omega) (by omega) (by omega) (by omega) (by omega) (by omega) (by omega) (by omega) (by omega) (by omega) (by omega)).mono ?_
            rintro e w9 ⟨rfl, hb9⟩
            have z0 := y0.keep hb9
            have z1 := y1.keep hb9
            have z2 := y2.keep hb9
            have B7 := bcall B6 hb9
            clear y0 y1 y2 hb9 B6
            go_wp2_with fail
            refine name_world ?_
            intro wp hwp
            have y0 := z0.alloc (.cells #[.int .i64 d1, .int .i64 d2, .int .i64 d3, .int .i64 d4] 23)
            have y1 := z1.alloc (.cells #[.int .i64 d1, .int .i64 d2, .int .i64 d3, .int .i64 d4] 23)
            have y2 := z2.alloc (.cells #[.int .i64 d1, .int .i64 d2, .int .i64 d3, .int .i64 d4] 23)
            have y3 := Bx.new w9 23 #[.int .i64 d1, .int .i64 d2, .int .i64 d3, .int .i64 d4]
            have B6 := bnew (ob := .cells #[.int .i64 d1, .int .i64 d2, .int .i64 d3, .int .i64 d4] 23) B7
            rw [← hwp] at y0 y1 y2 y3 B6
            clear hwp z0 z1 z2 B7
            generalize w9.heap.size = b20 at *
            clear w9
            have l0 := y0.lt
            have l1 := y1.lt
            have l2 := y2.lt
            have l3 := y3.lt
            obtain ⟨q0, f0, _⟩ := y0.all
            obtain ⟨q1, f1, _⟩ := y1.all
            obtain ⟨q2, f2, _⟩ := y2.all
            obtain ⟨q3, f3, _⟩ := y3.all
            obtain ⟨ib, hib⟩ : ∃ b, inB x y w h c1 c2 c3 c4 = b := ⟨_, rfl⟩
            have Hib := Lib.hid hib
            clear hib
            refine wp_region_all (fun z : BW wp.heap.size wp => z.w) (by kernel_rfl) (by kernel_rfl) (BW.start _ _) rfl ?_
            repeat (go_big_quiet_step (first
              | (go_at_call 40; exact BW.call (Nat.le_refl _) _ (frame_Inside_at _ _ _ _ _ _ _ _ _ Hib.out _ (by omega) (by omega) (by omega) (by omega) (by omega) (by omega) (by omega) (by omega) (by omega) (by omega) (by omega) (by omega) (by omega) (by omega) (by omega) (by omega)))
              | (go_at_call 21; exact BW.call (Nat.le_refl _) _ (ref_Inside_at _ _ _ _ _ _ _ _ _ Hib.out _ (by omega) (by omega) (by omega) (by omega) (by omega) (by omega) (by omega) (by omega) (by omega) (by omega) (by omega) (by omega)))))
            refine wpQuiet_nil ?_
            intro z
            go_wp2_with fail
            go_ret
            exact ⟨ret_bool (by simp), B6.trans (z.below.mono B6.size)⟩
          · go_wp2_with fail
            go_ret
            exact ⟨ret_bool (by simp), B6⟩
        · go_wp2_with fail
          go_ret
          exact ⟨ret_bool (by simp), B5⟩
end Go.Proofs.Ytoffnmpnhddaiaa
