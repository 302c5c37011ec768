/- FramesMix, walked. -/
import Derived.Test.YtoffnmpnhddaiaaMixT
import Derived.Test.YtoffnmpnhddaiaaMixF
import Derived.Test.YtoffnmpnhddaiaaMatO
import Derived.Test.YtoffnmpnhddaiaaFrBx
import Derived.Deep.DeepCutAuto
namespace Go.Proofs.Ytoffnmpnhddaiaa
open Go.RowKit

/-- The law's state: two right frames, a matte. -/
def MixSt (W : World) (mc : Array Value) (wx : World) : Prop :=
  (∃ fx fy fw fh M g zs, FrBx wx (W.heap.size + 1 + 1 + 1) W.heap.size fx fy fw fh M g zs) ∧ (∃ fx fy fw fh M g zs, FrBx wx (W.heap.size + 1 + 1 + 1) (W.heap.size + 1) fx fy fw fh M g zs) ∧ Bx wx (W.heap.size + 1 + 1) 62 mc ∧ Below W.heap.size W wx

theorem checkMatte_of {x y w h : Int} {M : Nat} (hr : checkRegion x y w h = 0) (hM : (M : Int) = w * h) : checkMatte x y w h M = 0 := by
  unfold checkMatte
  rw [if_pos hr, if_pos hM]
theorem matte_open {W : World} {x y w h : Int} {a : Option Addr} {n c M : Nat} {ms : List Nat} (hs : Sl W (.slice a n c) ms) (hk : checkMatte x y w h n = 0) (hM : (M : Int) = w * h) (hM1 : 1 ≤ M) :
    ∃ b o, a = some ⟨b, o, none⟩ ∧ ms.length = M ∧ Rd W b o ms ∧ M = n := by
  have hn : n = M := by
    unfold checkMatte at hk
    split at hk
    · split at hk
      · omega
      · omega
    · rename_i h0; exact absurd hk h0
  subst hn
  obtain ⟨b, o, e1, e2, e3⟩ := hs.some2 (by omega)
  exact ⟨b, o, e1, e2, e3, rfl⟩

set_option maxRecDepth 100000 in
set_option maxHeartbeats 8000000 in
theorem law_FramesMix (x y w h : Int) (v : Value) (xs : List Nat) (x2 y2 w2 h2 : Int) (v2 : Value) (ys : List Nat) (t : Nat) (x3 y3 w3 h3 : Int) (v3 : Value) (ms : List Nat) (apart : Bool) (W : World) (hs1 : Sl W v xs) (hs2 : Sl W v2 ys) (hs3 : Sl W v3 ms) :
    Calls Try.prog 7 #[.agg #[.int .i64 x, .int .i64 y, .int .i64 w, .int .i64 h, v], .agg #[.int .i64 x2, .int .i64 y2, .int .i64 w2, .int .i64 h2, v2], .float .f32 t, .agg #[.int .i64 x3, .int .i64 y3, .int .i64 w3, .int .i64 h3, v3], .bool apart] W fun e w' =>
      e = .returned (.bool true) ∧ Below W.heap.size W w' := by
  obtain ⟨a3, n3, c3, rfl, hform3⟩ := hs3.form
  have hv1 : v.cells = #[v] := by rcases hs1 with ⟨b, o, c, rfl, _⟩ | ⟨_, a, c, rfl⟩ <;> rfl
  have hv2 : v2.cells = #[v2] := by rcases hs2 with ⟨b, o, c, rfl, _⟩ | ⟨_, a, c, rfl⟩ <;> rfl
  go_enter Try.func7, Try.ntmps7
  go_upto_region 3 with (go_at_call 15; refine (law_landed _).mono ?_; rintro e w' ⟨rfl, rfl⟩)
  refine name_world ?_
  intro wa hwa
  have x0 : Bx wa W.heap.size 26 #[.int .i64 x, .int .i64 y, .int .i64 w, .int .i64 h, v] := by rw [hwa]; exact Bx.alloc (Bx.alloc (Bx.new _ _ _) _) _
  have x1 : Bx wa (W.heap.size + 1) 26 #[.int .i64 x2, .int .i64 y2, .int .i64 w2, .int .i64 h2, v2] := by rw [hwa]; exact Bx.alloc (Bx.at _ (by simp)) _
  have x2' : Bx wa (W.heap.size + 1 + 1) 62 #[.int .i64 x3, .int .i64 y3, .int .i64 w3, .int .i64 h3, .slice a3 n3 c3] := by rw [hwa]; exact Bx.at _ (by simp)
  have Ba : Below W.heap.size W wa := by rw [hwa]; exact bnew (bnew (bnew (Below.refl _ W)))
  clear hwa
  go_cut [] (fun wx => MixSt W #[.int .i64 x3, .int .i64 y3, .int .i64 w3, .int .i64 h3, .slice a3 n3 c3] wx)
  case first =>
    have lx2 := x2'.lt
    refine wp_region_rel 4 (fun q u w' => if q = 1 then (∃ g N, ((N : Nat) : Int) = 4 * fitSide w * fitSide h ∧ u = .agg #[.int .i64 (fitPlace x), .int .i64 (fitPlace y), .int .i64 (fitSide w), .int .i64 (fitSide h), .slice (some ⟨g, 0, none⟩) N N] ∧ wa.heap.size ≤ g ∧ Row w' g N (fitV xs N)) else if q = 3 then (∃ g N, ((N : Nat) : Int) = 4 * fitSide w2 * fitSide h2 ∧ u = .agg #[.int .i64 (fitPlace x2), .int .i64 (fitPlace y2), .int .i64 (fitSide w2), .int .i64 (fitSide h2), .slice (some ⟨g, 0, none⟩) N N] ∧ wa.heap.size ≤ g ∧ Row w' g N (fitV ys N)) else u = [.agg #[.int .i64 x, .int .i64 y, .int .i64 w, .int .i64 h, v], undef, .agg #[.int .i64 x2, .int .i64 y2, .int .i64 w2, .int .i64 h2, v2], undef].getD q undef) (fun _ => false) (fun w' => Below wa.heap.size wa w') (by kernel_rfl) (by kernel_rfl)
      (fun _ _ h e => e.trans (h.mono e.size)) (fun t u a b hb h => ?_) (Below.refl _ _).drew ?_ ?_
    · split
      · rename_i h4
        rw [if_pos h4] at h
        obtain ⟨g, N, e1, e2, e3, e4⟩ := h
        exact ⟨g, N, e1, e2, e3, e4.keep hb⟩
      · rename_i h4
        rw [if_neg h4] at h
        split
        · rename_i h5
          rw [if_pos h5] at h
          obtain ⟨g, N, e1, e2, e3, e4⟩ := h
          exact ⟨g, N, e1, e2, e3, e4.keep hb⟩
        · rename_i h5
          rw [if_neg h5] at h
          exact h
    · intro t op ht hop
      rcases (by omega : t = 0 ∨ t = 1 ∨ t = 2 ∨ t = 3) with rfl | rfl | rfl | rfl
      all_goals simp only [List.getElem?_cons_zero, List.getElem?_cons_succ, Option.some.injEq] at hop
      all_goals subst hop
      all_goals intro a wx hE hag hdep
      · have e0 := slot_eq (hag 5 rfl)
        have hq := (x0.keep hE).all.1
        exact rel_pure _ rfl rfl (by simp [go_sem, e0, hq])
      · have e0 := slot_eq (hdep ⟨0, .data⟩ (by simp) rfl)
        refine rel_call (f := 16) (args := #[.agg #[.int .i64 x, .int .i64 y, .int .i64 w, .int .i64 h, v]]) (run_go_call Try.func16 (by kernel_rfl) (by kernel_rfl) _ _ _ _ _ _ _ _ _ _ (by simp [Act.eval, e0])) rfl ?_
        refine (law_fit _ _ _ _ _ xs _ (hs1.keep (Ba.trans (hE.mono Ba.size)))).mono ?_
        rintro e w' ⟨g, N, hN, rfl, hg, hrow, hb⟩
        exact ⟨_, rfl, ⟨g, N, hN, rfl, Nat.le_trans hE.size hg, hrow⟩, hb⟩
      · have e0 := slot_eq (hag 6 rfl)
        have hq := (x1.keep hE).all.1
        exact rel_pure _ rfl rfl (by simp [go_sem, e0, hq])
      · have e0 := slot_eq (hdep ⟨2, .data⟩ (by simp) rfl)
        refine rel_call (f := 16) (args := #[.agg #[.int .i64 x2, .int .i64 y2, .int .i64 w2, .int .i64 h2, v2]]) (run_go_call Try.func16 (by kernel_rfl) (by kernel_rfl) _ _ _ _ _ _ _ _ _ _ (by simp [Act.eval, e0])) rfl ?_
        refine (law_fit _ _ _ _ _ ys _ (hs2.keep (Ba.trans (hE.mono Ba.size)))).mono ?_
        rintro e w' ⟨g, N, hN, rfl, hg, hrow, hb⟩
        exact ⟨_, rfl, ⟨g, N, hN, rfl, Nat.le_trans hE.size hg, hrow⟩, hb⟩
    · intro vs wx hE hvs _
      obtain ⟨g1, N1, hN1, k1, hg1, row1⟩ := hvs 1 (by omega)
      obtain ⟨g2, N2, hN2, k3, hg2, row2⟩ := hvs 3 (by omega)
      simp only [List.drop_succ_cons, List.drop_zero, putAll, dstAt, List.getElem?_toArray, List.getElem?_cons_zero, List.getElem?_cons_succ, Option.bind_some, Act.put, List.setIfInBounds_toArray, List.set_cons_zero, List.set_cons_succ, k1, k3]
      clear hvs k1 k3
      have y0 := x0.keep hE
      have y1 := x1.keep hE
      have y2' := x2'.keep hE
      have B2 := Ba.trans (hE.mono Ba.size)
      obtain ⟨M1, rfl, H1⟩ := fit_right (x := x) (y := y) (xs := xs) hN1
      obtain ⟨M2, rfl, H2⟩ := fit_right (x := x2) (y := y2) (xs := ys) hN2
      clear x0 x1 x2' hE hs1 hs2 hN1 hN2
      obtain ⟨q0, f0, l0⟩ := y0.all
      obtain ⟨q1, f1, l1⟩ := y1.all
      obtain ⟨z0, on1⟩ := set5 y0 (.int .i64 (fitPlace x)) (.int .i64 (fitPlace y)) (.int .i64 (fitSide w)) (.int .i64 (fitSide h)) (.slice (some ⟨g1, 0, none⟩) (4 * M1) (4 * M1))
      obtain ⟨z1, on2⟩ := set5 (on1.bx (by omega) y1) (.int .i64 (fitPlace x2)) (.int .i64 (fitPlace y2)) (.int .i64 (fitSide w2)) (.int .i64 (fitSide h2)) (.slice (some ⟨g2, 0, none⟩) (4 * M2) (4 * M2))
      go_wp2_with fail
      go_meet
      exact ⟨⟨_, _, _, _, M1, g1, _, on2.bx (by omega) z0, on2.rd (by omega) (on1.rd (by omega) row1.rd), by omega, H1⟩, ⟨_, _, _, _, M2, g2, _, z1, on2.rd (by omega) (on1.rd (by omega) row2.rd), by omega, H2⟩, on2.bx (by omega) (on1.bx (by omega) y2'), bonly (bonly B2 on1 (by omega)) on2 (by omega)⟩
  case rest =>
    have st := hcut
    clear hcut x0 x1 x2' Ba
    rename_i hK0
    refine hK0 _ _ ?_
    clear hK0
    refine wp_seq_k ?_
    intro K1 hK1
    go_cut [] (fun wx => MixSt W #[.int .i64 x3, .int .i64 y3, .int .i64 w3, .int .i64 h3, .slice a3 n3 c3] wx)
    case first =>
      cases apart
      · obtain ⟨⟨fx, fy, fw, fh, M, g, zs, fa⟩, ⟨gx, gy, gw, gh, M2, g2, zs2, fb⟩, xm, B2⟩ := st
        obtain ⟨q0, f0, l0⟩ := fa.1.all
        obtain ⟨q1, f1, l1⟩ := fb.1.all
        obtain ⟨d1, d2, d3, d4, d5, d6, d7, d8⟩ := fb.bd
        obtain ⟨d11, d12, d13, d14, d15, d16, d17, d18⟩ := fa.bd
        have Hd := Lib.hid (And.intro d1 (And.intro d15 (And.intro d16 (And.intro d17 d18))))
        have hrd := fb.2.1
        clear d1 d2 d11 d12
        go_wp2_with fail
        refine (law_like gx gy gw gh fx fy fw fh g2 0 (4 * M2) _ zs2 _ (by omega) Hd.out.1 hrd (by omega) (by omega) (by omega) (by omega)).mono ?_
        rintro e w5 ⟨g5, N5, hN5, rfl, hg5, row5, hb5⟩
        have fa5 := fa.keep hb5
        have fb5 := fb.keep hb5
        have xm5 := xm.keep hb5
        have B5 := bcall B2 hb5
        have hlm := xm.lt
        have hg2 := fa.2.2.1
        have hgl := fa.2.1.lt
        clear hb5 fa fb xm B2 q0 f0 l0 q1 f1 l1 hrd
        obtain ⟨M5, hM5, rfl⟩ := four_of hN5
        obtain ⟨z1, on1⟩ := set5 fb5.1 (.int .i64 fx) (.int .i64 fy) (.int .i64 fw) (.int .i64 fh) (.slice (some ⟨g5, 0, none⟩) (4 * M5) (4 * M5))
        obtain ⟨q1, f1, l1⟩ := fb5.1.all
        go_wp2_with fail
        go_meet
        exact ⟨⟨_, _, _, _, M, g, zs, fa5.only on1 (by omega) (by omega)⟩, ⟨_, _, _, _, M5, g5, _, z1, on1.rd (by omega) row5.rd, by omega, Lib.hid ⟨fitV_len _ _, hM5, Hd.out.2⟩⟩, on1.bx (by omega) xm5, bonly B5 on1 (by omega)⟩
      · go_wp2_with fail
        go_meet
        exact st
    case rest =>
      have st2 := hcut
      clear hcut st
      obtain ⟨⟨fx, fy, fw, fh, M, g1, zs, fa⟩, ⟨gx, gy, gw, gh, M2, g2, zs2, fb⟩, xm, B⟩ := st2
      have hga := fa.2.2.1
      have hgb := fb.2.2.1
      obtain ⟨a1, a2, a3', a4, a5, a6, a7, a8⟩ := fa.bd
      obtain ⟨b1, b2, b3, b4, b5, b6, b7, b8⟩ := fb.bd
      generalize hkk : checkMatte x3 y3 w3 h3 n3 = k
      have hk := Lib.hid hkk
      clear hkk
      by_cases heq : fx = gx ∧ fy = gy ∧ fw = gw ∧ fh = gh
      · obtain ⟨rfl, rfl, rfl, rfl⟩ := heq
        obtain rfl : M = M2 := by omega
        have hd := Lib.hid (And.intro a1 (And.intro a2 b1))
        clear a1 a2 b1 b2
        obtain ⟨q0, f0, l0⟩ := fa.1.all
        obtain ⟨q1, f1, l1⟩ := fb.1.all
        obtain ⟨q2, f2, l2⟩ := xm.all
        go_wp2_with fail
        refine (frame_Mix_ok fx fy fw fh g1 0 _ g2 0 _ (4 * M) M t zs zs2 _ fa.chk hd.out.2.1 (by omega) rfl (by omega) (by omega) hd.out.1 hd.out.2.2 fa.2.1 fb.2.1).mono ?_
        rintro e wv ⟨gr, rfl, hgr, row, hb⟩
        clear q0 f0 l0 q1 f1 l1 q2 f2 l2
        replace fa := fa.keep hb
        replace fb := fb.keep hb
        replace xm := xm.keep hb
        replace B := bcall B hb
        have hgw1 : g1 < wv.heap.size := fa.2.1.lt
        have hgw2 : g2 < wv.heap.size := fb.2.1.lt
        have hxm : W.heap.size + 1 + 1 < wv.heap.size := xm.lt
        clear hb
        have rr := row.rd
        clear row
        obtain ⟨q0, f0, l0⟩ := fa.1.all
        obtain ⟨q1, f1, l1⟩ := fb.1.all
        obtain ⟨q2, f2, l2⟩ := xm.all
        go_wp2_with fail
        refine nm_call ?_
        intro wn hwn
        have x11 : Bx wn wv.heap.size 26 #[.int .i64 fx, .int .i64 fy, .int .i64 fw, .int .i64 fh, .slice (some ⟨gr, 0, none⟩) (4 * M) (4 * M)] := by rw [hwn]; exact Bx.new _ _ _
        have hb : Below wv.heap.size wv wn := by rw [hwn]; exact bnew (Below.refl _ _)
        clear q0 f0 l0 q1 f1 l1 q2 f2 l2
        replace fa := fa.keep hb
        replace fb := fb.keep hb
        replace xm := xm.keep hb
        replace rr := rr.keep hb
        replace B := bcall B hb
        clear hwn hb
        generalize wv.heap.size = p11 at *
        refine (ref_Mix_ok fx fy fw fh g1 0 _ g2 0 _ (4 * M) M t zs zs2 _ (by omega) (by omega) rfl (Nat.le_refl _) hd.out.1 hd.out.2.2 fa.2.1 fb.2.1).mono ?_
        rintro e wv ⟨gs, ks, rfl, hks, hgs, rd6, hb⟩
        replace fa := fa.keep hb
        replace fb := fb.keep hb
        replace xm := xm.keep hb
        replace x11 := x11.keep hb
        replace rr := rr.keep hb
        replace B := bcall B hb
        have hp13 : p11 < wv.heap.size := x11.lt
        clear hb
        obtain ⟨q0, f0, l0⟩ := fa.1.all
        obtain ⟨q1, f1, l1⟩ := fb.1.all
        obtain ⟨q2, f2, l2⟩ := xm.all
        obtain ⟨q3, f3, l3⟩ := x11.all
        go_wp2_with fail
        refine nm_call ?_
        intro wn hwn
        have x13 : Bx wn wv.heap.size 26 #[.int .i64 fx, .int .i64 fy, .int .i64 fw, .int .i64 fh, .slice (some ⟨gs, 0, none⟩) (4 * M) ks] := by rw [hwn]; exact Bx.new _ _ _
        have hb : Below wv.heap.size wv wn := by rw [hwn]; exact bnew (Below.refl _ _)
        clear q0 f0 l0 q1 f1 l1 q2 f2 l2 q3 f3 l3
        replace fa := fa.keep hb
        replace fb := fb.keep hb
        replace xm := xm.keep hb
        replace x11 := x11.keep hb
        replace rr := rr.keep hb
        replace rd6 := rd6.keep hb
        replace B := bcall B hb
        clear hwn hb
        generalize wv.heap.size = p13 at *
        refine (law_alike_ok fx fy fw fh _ _ _ _ _ _ (4 * M) _ _ (by omega) (by rw [List.length_map, List.length_range]) rr rd6).mono ?_
        rintro e wv ⟨rfl, hb⟩
        replace fa := fa.keep hb
        replace fb := fb.keep hb
        replace xm := xm.keep hb
        replace x11 := x11.keep hb
        replace x13 := x13.keep hb
        replace rr := rr.keep hb
        replace rd6 := rd6.keep hb
        replace B := bcall B hb
        clear hb
        clear rr rd6
        clear hgs hgr hks
        obtain ⟨q0, f0, l0⟩ := fa.1.all
        obtain ⟨q1, f1, l1⟩ := fb.1.all
        obtain ⟨q2, f2, l2⟩ := xm.all
        obtain ⟨q3, f3, l3⟩ := x11.all
        obtain ⟨q4, f4, l4⟩ := x13.all
        go_wp2_with fail
        by_cases hk0 : k = 0
        · subst hk0
          by_cases heq3 : fx = x3 ∧ fy = y3 ∧ fw = w3 ∧ fh = h3
          · obtain ⟨rfl, rfl, rfl, rfl⟩ := heq3
            obtain ⟨bm, om, rfl, hml, rm, rfl⟩ := matte_open hs3 hk.out hd.out.2.1 a3'
            have hms := Lib.hid hml
            clear hml
            have hx := x13.lt
            refine (frame_Through_ok fx fy fw fh g1 0 _ g2 0 _ bm om c3 (4 * M) M zs zs2 ms _ fa.chk hd.out.2.1 (by omega) rfl (by omega) (by omega) hd.out.1 hd.out.2.2 fa.2.1 fb.2.1 hms.out (rm.keep B) hk.out).mono ?_
            rintro e wv ⟨gr, rfl, hgr, row, hb⟩
            clear q0 f0 l0 q1 f1 l1 q2 f2 l2 q3 f3 l3 q4 f4 l4
            replace fa := fa.keep hb
            replace fb := fb.keep hb
            replace xm := xm.keep hb
            replace x11 := x11.keep hb
            replace x13 := x13.keep hb
            replace B := bcall B hb
            clear hb
            have rr := row.rd
            clear row
            obtain ⟨q0, f0, l0⟩ := fa.1.all
            obtain ⟨q1, f1, l1⟩ := fb.1.all
            obtain ⟨q2, f2, l2⟩ := xm.all
            obtain ⟨q3, f3, l3⟩ := x11.all
            obtain ⟨q4, f4, l4⟩ := x13.all
            go_wp2_with fail
            have hgr' : gr ≠ p11 ∧ gr ≠ p13 := by omega
            clear hx
            obtain ⟨z, on⟩ := set5 x11 (.int .i64 fx) (.int .i64 fy) (.int .i64 fw) (.int .i64 fh) (.slice (some ⟨gr, 0, none⟩) (4 * M) (4 * M))
            refine nm_call ?_
            intro wn hwn
            rw [← hwn] at z on
            clear hwn
            clear q0 f0 l0 q1 f1 l1 q2 f2 l2 q3 f3 l3 q4 f4 l4
            replace fa := fa.only on (by omega) (by omega)
            replace fb := fb.only on (by omega) (by omega)
            replace xm := on.bx (by omega) xm
            replace x13 := on.bx (by omega) x13
            replace rr := on.rd (by omega) rr
            replace B := bonly B on (by omega)
            clear x11
            have x11 := z
            clear z on
            refine (ref_MatteError _ _ _ _ _ _ _ _).mono ?_
            rintro e wv ⟨rfl, hb⟩
            replace fa := fa.keep hb
            replace fb := fb.keep hb
            replace xm := xm.keep hb
            replace x11 := x11.keep hb
            replace x13 := x13.keep hb
            replace rr := rr.keep hb
            replace B := bcall B hb
            clear hb
            rw [hk.out]
            obtain ⟨q0, f0, l0⟩ := fa.1.all
            obtain ⟨q1, f1, l1⟩ := fb.1.all
            obtain ⟨q2, f2, l2⟩ := xm.all
            obtain ⟨q3, f3, l3⟩ := x11.all
            obtain ⟨q4, f4, l4⟩ := x13.all
            go_wp2_with fail
            have hx := x13.lt
            refine (ref_Through_ok fx fy fw fh g1 0 _ g2 0 _ bm om c3 (4 * M) M zs zs2 ms _ (by omega) (by omega) rfl (Nat.le_refl _) hd.out.1 hd.out.2.2 fa.2.1 fb.2.1 hms.out (rm.keep B)).mono ?_
            rintro e wv ⟨gs, ks, rfl, hks, hgs, rd6, hb⟩
            clear q0 f0 l0 q1 f1 l1 q2 f2 l2 q3 f3 l3 q4 f4 l4
            replace fa := fa.keep hb
            replace fb := fb.keep hb
            replace xm := xm.keep hb
            replace x11 := x11.keep hb
            replace x13 := x13.keep hb
            replace rr := rr.keep hb
            replace B := bcall B hb
            clear hb
            obtain ⟨q0, f0, l0⟩ := fa.1.all
            obtain ⟨q1, f1, l1⟩ := fb.1.all
            obtain ⟨q2, f2, l2⟩ := xm.all
            obtain ⟨q3, f3, l3⟩ := x11.all
            obtain ⟨q4, f4, l4⟩ := x13.all
            go_wp2_with fail
            have hgs' : gs ≠ p13 := by omega
            clear hx
            obtain ⟨z, on⟩ := set5 x13 (.int .i64 fx) (.int .i64 fy) (.int .i64 fw) (.int .i64 fh) (.slice (some ⟨gs, 0, none⟩) (4 * M) ks)
            refine nm_call ?_
            intro wn hwn
            rw [← hwn] at z on
            clear hwn
            clear q0 f0 l0 q1 f1 l1 q2 f2 l2 q3 f3 l3 q4 f4 l4
            replace fa := fa.only on (by omega) (by omega)
            replace fb := fb.only on (by omega) (by omega)
            replace xm := on.bx (by omega) xm
            replace x11 := on.bx (by omega) x11
            replace rr := on.rd (by omega) rr
            replace rd6 := on.rd (by omega) rd6
            replace B := bonly B on (by omega)
            clear x13
            have x13 := z
            clear z on
            refine (law_alike_ok fx fy fw fh _ _ _ _ _ _ (4 * M) _ _ (by omega) (by rw [List.length_map, List.length_range]) rr rd6).mono ?_
            rintro e wv ⟨rfl, hb⟩
            replace fa := fa.keep hb
            replace fb := fb.keep hb
            replace xm := xm.keep hb
            replace x11 := x11.keep hb
            replace x13 := x13.keep hb
            replace rr := rr.keep hb
            replace rd6 := rd6.keep hb
            replace B := bcall B hb
            clear hb
            clear rr rd6
            clear hgs hgr hks hgr' hgs'
            obtain ⟨q0, f0, l0⟩ := fa.1.all
            obtain ⟨q1, f1, l1⟩ := fb.1.all
            obtain ⟨q2, f2, l2⟩ := xm.all
            obtain ⟨q3, f3, l3⟩ := x11.all
            obtain ⟨q4, f4, l4⟩ := x13.all
            go_wp2_with fail
            have hpm : p13 < wv.heap.size := x13.lt
            refine (law_matteOf _ _ _ _ fx fy fw fh M _ ms _ (hs3.keep B) hd.out.2.1 (by omega) (by omega) (by omega) (by omega)).mono ?_
            rintro e wv ⟨gm, rfl, hgm, rowm, hb⟩
            clear q0 f0 l0 q1 f1 l1 q2 f2 l2 q3 f3 l3 q4 f4 l4
            replace fa := fa.keep hb
            replace fb := fb.keep hb
            replace xm := xm.keep hb
            replace x11 := x11.keep hb
            replace x13 := x13.keep hb
            replace B := bcall B hb
            have hpm2 : p13 < wv.heap.size := x13.lt
            have hgmp : p13 < gm := by omega
            clear hb
            have rdm := rowm.rd
            clear rowm
            obtain ⟨q0, f0, l0⟩ := fa.1.all
            obtain ⟨q1, f1, l1⟩ := fb.1.all
            obtain ⟨q2, f2, l2⟩ := xm.all
            obtain ⟨q3, f3, l3⟩ := x11.all
            obtain ⟨q4, f4, l4⟩ := x13.all
            go_wp2_with fail
            refine nm_call ?_
            intro wn hwn
            have x16 : Bx wn wv.heap.size 62 #[.int .i64 fx, .int .i64 fy, .int .i64 fw, .int .i64 fh, .slice (some ⟨gm, 0, none⟩) M M] := by rw [hwn]; exact Bx.new _ _ _
            have hb : Below wv.heap.size wv wn := by rw [hwn]; exact bnew (Below.refl _ _)
            clear q0 f0 l0 q1 f1 l1 q2 f2 l2 q3 f3 l3 q4 f4 l4
            replace fa := fa.keep hb
            replace fb := fb.keep hb
            replace xm := xm.keep hb
            replace x11 := x11.keep hb
            replace x13 := x13.keep hb
            replace rdm := rdm.keep hb
            replace B := bcall B hb
            clear hwn hb
            generalize wv.heap.size = p16 at *
            have hx := x13.lt
            refine (frame_Through_ok fx fy fw fh g1 0 _ g2 0 _ gm 0 M (4 * M) M zs zs2 (fitV ms M) _ fa.chk hd.out.2.1 (by omega) rfl (by omega) (by omega) hd.out.1 hd.out.2.2 fa.2.1 fb.2.1 (fitV_len _ _) rdm (checkMatte_of fa.reg hd.out.2.1)).mono ?_
            rintro e wv ⟨gr, rfl, hgr, row, hb⟩
            replace fa := fa.keep hb
            replace fb := fb.keep hb
            replace xm := xm.keep hb
            replace x11 := x11.keep hb
            replace x13 := x13.keep hb
            replace x16 := x16.keep hb
            replace rdm := rdm.keep hb
            replace B := bcall B hb
            clear hb
            have rr := row.rd
            clear row
            obtain ⟨q0, f0, l0⟩ := fa.1.all
            obtain ⟨q1, f1, l1⟩ := fb.1.all
            obtain ⟨q2, f2, l2⟩ := xm.all
            obtain ⟨q3, f3, l3⟩ := x11.all
            obtain ⟨q4, f4, l4⟩ := x13.all
            obtain ⟨q5, f5, l5⟩ := x16.all
            go_wp2_with fail
            have hgr' : gr ≠ p11 ∧ gr ≠ p13 := by omega
            clear hx
            obtain ⟨z, on⟩ := set5 x11 (.int .i64 fx) (.int .i64 fy) (.int .i64 fw) (.int .i64 fh) (.slice (some ⟨gr, 0, none⟩) (4 * M) (4 * M))
            refine nm_call ?_
            intro wn hwn
            rw [← hwn] at z on
            clear hwn
            clear q0 f0 l0 q1 f1 l1 q2 f2 l2 q3 f3 l3 q4 f4 l4 q5 f5 l5
            replace fa := fa.only on (by omega) (by omega)
            replace fb := fb.only on (by omega) (by omega)
            replace xm := on.bx (by omega) xm
            replace x13 := on.bx (by omega) x13
            replace x16 := on.bx (by omega) x16
            replace rdm := on.rd (by omega) rdm
            replace rr := on.rd (by omega) rr
            replace B := bonly B on (by omega)
            clear x11
            have x11 := z
            clear z on
            have hx := x13.lt
            refine (ref_Through_ok fx fy fw fh g1 0 _ g2 0 _ gm 0 M (4 * M) M zs zs2 (fitV ms M) _ (by omega) (by omega) rfl (Nat.le_refl _) hd.out.1 hd.out.2.2 fa.2.1 fb.2.1 (fitV_len _ _) rdm).mono ?_
            rintro e wv ⟨gs, ks, rfl, hks, hgs, rd6, hb⟩
            replace fa := fa.keep hb
            replace fb := fb.keep hb
            replace xm := xm.keep hb
            replace x11 := x11.keep hb
            replace x13 := x13.keep hb
            replace x16 := x16.keep hb
            replace rdm := rdm.keep hb
            replace rr := rr.keep hb
            replace B := bcall B hb
            clear hb
            obtain ⟨q0, f0, l0⟩ := fa.1.all
            obtain ⟨q1, f1, l1⟩ := fb.1.all
            obtain ⟨q2, f2, l2⟩ := xm.all
            obtain ⟨q3, f3, l3⟩ := x11.all
            obtain ⟨q4, f4, l4⟩ := x13.all
            obtain ⟨q5, f5, l5⟩ := x16.all
            go_wp2_with fail
            have hgs' : gs ≠ p13 := by omega
            clear hx
            obtain ⟨z, on⟩ := set5 x13 (.int .i64 fx) (.int .i64 fy) (.int .i64 fw) (.int .i64 fh) (.slice (some ⟨gs, 0, none⟩) (4 * M) ks)
            refine nm_call ?_
            intro wn hwn
            rw [← hwn] at z on
            clear hwn
            clear q0 f0 l0 q1 f1 l1 q2 f2 l2 q3 f3 l3 q4 f4 l4 q5 f5 l5
            replace fa := fa.only on (by omega) (by omega)
            replace fb := fb.only on (by omega) (by omega)
            replace xm := on.bx (by omega) xm
            replace x11 := on.bx (by omega) x11
            replace x16 := on.bx (by omega) x16
            replace rdm := on.rd (by omega) rdm
            replace rr := on.rd (by omega) rr
            replace rd6 := on.rd (by omega) rd6
            replace B := bonly B on (by omega)
            clear x13
            have x13 := z
            clear z on
            refine (law_alike_ok fx fy fw fh _ _ _ _ _ _ (4 * M) _ _ (by omega) (by rw [List.length_map, List.length_range]) rr rd6).mono ?_
            rintro e wv ⟨rfl, hb⟩
            replace fa := fa.keep hb
            replace fb := fb.keep hb
            replace xm := xm.keep hb
            replace x11 := x11.keep hb
            replace x13 := x13.keep hb
            replace x16 := x16.keep hb
            replace rdm := rdm.keep hb
            replace rr := rr.keep hb
            replace rd6 := rd6.keep hb
            replace B := bcall B hb
            clear hb
            clear rr rd6
            clear hgs hgr hks hgr' hgs'
            obtain ⟨q0, f0, l0⟩ := fa.1.all
            obtain ⟨q1, f1, l1⟩ := fb.1.all
            obtain ⟨q2, f2, l2⟩ := xm.all
            obtain ⟨q3, f3, l3⟩ := x11.all
            obtain ⟨q4, f4, l4⟩ := x13.all
            obtain ⟨q5, f5, l5⟩ := x16.all
            go_wp2_with fail
            go_ret
            exact ⟨rfl, B⟩
          · have hq3 := Lib.hid heq3
            clear heq3
            have hx := x13.lt
            refine (frame_Through_place _ _ _ _ _ _ _ _ _ _ _ _ _ _ _ _ _ _ _ _ _ _ (by unfold maxLen; omega) (by unfold maxLen; omega) fa.chk fb.chk hk.out (fun hh => hq3.out hh.2)).mono ?_
            rintro e wv ⟨rfl, hb⟩
            clear q0 f0 l0 q1 f1 l1 q2 f2 l2 q3 f3 l3 q4 f4 l4
            replace fa := fa.keep hb
            replace fb := fb.keep hb
            replace xm := xm.keep hb
            replace x11 := x11.keep hb
            replace x13 := x13.keep hb
            replace B := bcall B hb
            clear hb
            obtain ⟨q0, f0, l0⟩ := fa.1.all
            obtain ⟨q1, f1, l1⟩ := fb.1.all
            obtain ⟨q2, f2, l2⟩ := xm.all
            obtain ⟨q3, f3, l3⟩ := x11.all
            obtain ⟨q4, f4, l4⟩ := x13.all
            go_wp2_with fail
            clear hx
            obtain ⟨z, on⟩ := set5 x11 (.int .i64 0) (.int .i64 0) (.int .i64 0) (.int .i64 0) (.slice none 0 0)
            refine nm_call ?_
            intro wn hwn
            rw [← hwn] at z on
            clear hwn
            clear q0 f0 l0 q1 f1 l1 q2 f2 l2 q3 f3 l3 q4 f4 l4
            replace fa := fa.only on (by omega) (by omega)
            replace fb := fb.only on (by omega) (by omega)
            replace xm := on.bx (by omega) xm
            replace x13 := on.bx (by omega) x13
            replace B := bonly B on (by omega)
            clear x11
            have x11 := z
            clear z on
            refine (ref_MatteError _ _ _ _ _ _ _ _).mono ?_
            rintro e wv ⟨rfl, hb⟩
            replace fa := fa.keep hb
            replace fb := fb.keep hb
            replace xm := xm.keep hb
            replace x11 := x11.keep hb
            replace x13 := x13.keep hb
            replace B := bcall B hb
            clear hb
            rw [hk.out]
            obtain ⟨q0, f0, l0⟩ := fa.1.all
            obtain ⟨q1, f1, l1⟩ := fb.1.all
            obtain ⟨q2, f2, l2⟩ := xm.all
            obtain ⟨q3, f3, l3⟩ := x11.all
            obtain ⟨q4, f4, l4⟩ := x13.all
            go_wp2_with fail
            have hx := x13.lt
            refine (ref_Through_place _ _ _ _ _ _ _ _ _ _ _ _ _ _ _ _ _ _ _ _ _ _ (fun hh => hq3.out hh.2)).mono ?_
            rintro e wv ⟨rfl, hb⟩
            clear q0 f0 l0 q1 f1 l1 q2 f2 l2 q3 f3 l3 q4 f4 l4
            replace fa := fa.keep hb
            replace fb := fb.keep hb
            replace xm := xm.keep hb
            replace x11 := x11.keep hb
            replace x13 := x13.keep hb
            replace B := bcall B hb
            clear hb
            obtain ⟨q0, f0, l0⟩ := fa.1.all
            obtain ⟨q1, f1, l1⟩ := fb.1.all
            obtain ⟨q2, f2, l2⟩ := xm.all
            obtain ⟨q3, f3, l3⟩ := x11.all
            obtain ⟨q4, f4, l4⟩ := x13.all
            go_wp2_with fail
            clear hx
            obtain ⟨z, on⟩ := set5 x13 (.int .i64 0) (.int .i64 0) (.int .i64 0) (.int .i64 0) (.slice none 0 0)
            refine nm_call ?_
            intro wn hwn
            rw [← hwn] at z on
            clear hwn
            clear q0 f0 l0 q1 f1 l1 q2 f2 l2 q3 f3 l3 q4 f4 l4
            replace fa := fa.only on (by omega) (by omega)
            replace fb := fb.only on (by omega) (by omega)
            replace xm := on.bx (by omega) xm
            replace x11 := on.bx (by omega) x11
            replace B := bonly B on (by omega)
            clear x13
            have x13 := z
            clear z on
            refine (law_alike_err 5 (by decide) _).mono ?_
            rintro e wv ⟨rfl, hb⟩
            replace fa := fa.keep hb
            replace fb := fb.keep hb
            replace xm := xm.keep hb
            replace x11 := x11.keep hb
            replace x13 := x13.keep hb
            replace B := bcall B hb
            clear hb
            obtain ⟨q0, f0, l0⟩ := fa.1.all
            obtain ⟨q1, f1, l1⟩ := fb.1.all
            obtain ⟨q2, f2, l2⟩ := xm.all
            obtain ⟨q3, f3, l3⟩ := x11.all
            obtain ⟨q4, f4, l4⟩ := x13.all
            go_wp2_with fail
            have hpm : p13 < wv.heap.size := x13.lt
            refine (law_matteOf _ _ _ _ fx fy fw fh M _ ms _ (hs3.keep B) hd.out.2.1 (by omega) (by omega) (by omega) (by omega)).mono ?_
            rintro e wv ⟨gm, rfl, hgm, rowm, hb⟩
            clear q0 f0 l0 q1 f1 l1 q2 f2 l2 q3 f3 l3 q4 f4 l4
            replace fa := fa.keep hb
            replace fb := fb.keep hb
            replace xm := xm.keep hb
            replace x11 := x11.keep hb
            replace x13 := x13.keep hb
            replace B := bcall B hb
            have hpm2 : p13 < wv.heap.size := x13.lt
            have hgmp : p13 < gm := by omega
            clear hb
            have rdm := rowm.rd
            clear rowm
            obtain ⟨q0, f0, l0⟩ := fa.1.all
            obtain ⟨q1, f1, l1⟩ := fb.1.all
            obtain ⟨q2, f2, l2⟩ := xm.all
            obtain ⟨q3, f3, l3⟩ := x11.all
            obtain ⟨q4, f4, l4⟩ := x13.all
            go_wp2_with fail
            refine nm_call ?_
            intro wn hwn
            have x16 : Bx wn wv.heap.size 62 #[.int .i64 fx, .int .i64 fy, .int .i64 fw, .int .i64 fh, .slice (some ⟨gm, 0, none⟩) M M] := by rw [hwn]; exact Bx.new _ _ _
            have hb : Below wv.heap.size wv wn := by rw [hwn]; exact bnew (Below.refl _ _)
            clear q0 f0 l0 q1 f1 l1 q2 f2 l2 q3 f3 l3 q4 f4 l4
            replace fa := fa.keep hb
            replace fb := fb.keep hb
            replace xm := xm.keep hb
            replace x11 := x11.keep hb
            replace x13 := x13.keep hb
            replace rdm := rdm.keep hb
            replace B := bcall B hb
            clear hwn hb
            generalize wv.heap.size = p16 at *
            have hx := x13.lt
            refine (frame_Through_ok fx fy fw fh g1 0 _ g2 0 _ gm 0 M (4 * M) M zs zs2 (fitV ms M) _ fa.chk hd.out.2.1 (by omega) rfl (by omega) (by omega) hd.out.1 hd.out.2.2 fa.2.1 fb.2.1 (fitV_len _ _) rdm (checkMatte_of fa.reg hd.out.2.1)).mono ?_
            rintro e wv ⟨gr, rfl, hgr, row, hb⟩
            replace fa := fa.keep hb
            replace fb := fb.keep hb
            replace xm := xm.keep hb
            replace x11 := x11.keep hb
            replace x13 := x13.keep hb
            replace x16 := x16.keep hb
            replace rdm := rdm.keep hb
            replace B := bcall B hb
            clear hb
            have rr := row.rd
            clear row
            obtain ⟨q0, f0, l0⟩ := fa.1.all
            obtain ⟨q1, f1, l1⟩ := fb.1.all
            obtain ⟨q2, f2, l2⟩ := xm.all
            obtain ⟨q3, f3, l3⟩ := x11.all
            obtain ⟨q4, f4, l4⟩ := x13.all
            obtain ⟨q5, f5, l5⟩ := x16.all
            go_wp2_with fail
            have hgr' : gr ≠ p11 ∧ gr ≠ p13 := by omega
            clear hx
            obtain ⟨z, on⟩ := set5 x11 (.int .i64 fx) (.int .i64 fy) (.int .i64 fw) (.int .i64 fh) (.slice (some ⟨gr, 0, none⟩) (4 * M) (4 * M))
            refine nm_call ?_
            intro wn hwn
            rw [← hwn] at z on
            clear hwn
            clear q0 f0 l0 q1 f1 l1 q2 f2 l2 q3 f3 l3 q4 f4 l4 q5 f5 l5
            replace fa := fa.only on (by omega) (by omega)
            replace fb := fb.only on (by omega) (by omega)
            replace xm := on.bx (by omega) xm
            replace x13 := on.bx (by omega) x13
            replace x16 := on.bx (by omega) x16
            replace rdm := on.rd (by omega) rdm
            replace rr := on.rd (by omega) rr
            replace B := bonly B on (by omega)
            clear x11
            have x11 := z
            clear z on
            have hx := x13.lt
            refine (ref_Through_ok fx fy fw fh g1 0 _ g2 0 _ gm 0 M (4 * M) M zs zs2 (fitV ms M) _ (by omega) (by omega) rfl (Nat.le_refl _) hd.out.1 hd.out.2.2 fa.2.1 fb.2.1 (fitV_len _ _) rdm).mono ?_
            rintro e wv ⟨gs, ks, rfl, hks, hgs, rd6, hb⟩
            replace fa := fa.keep hb
            replace fb := fb.keep hb
            replace xm := xm.keep hb
            replace x11 := x11.keep hb
            replace x13 := x13.keep hb
            replace x16 := x16.keep hb
            replace rdm := rdm.keep hb
            replace rr := rr.keep hb
            replace B := bcall B hb
            clear hb
            obtain ⟨q0, f0, l0⟩ := fa.1.all
            obtain ⟨q1, f1, l1⟩ := fb.1.all
            obtain ⟨q2, f2, l2⟩ := xm.all
            obtain ⟨q3, f3, l3⟩ := x11.all
            obtain ⟨q4, f4, l4⟩ := x13.all
            obtain ⟨q5, f5, l5⟩ := x16.all
            go_wp2_with fail
            have hgs' : gs ≠ p13 := by omega
            clear hx
            obtain ⟨z, on⟩ := set5 x13 (.int .i64 fx) (.int .i64 fy) (.int .i64 fw) (.int .i64 fh) (.slice (some ⟨gs, 0, none⟩) (4 * M) ks)
            refine nm_call ?_
            intro wn hwn
            rw [← hwn] at z on
            clear hwn
            clear q0 f0 l0 q1 f1 l1 q2 f2 l2 q3 f3 l3 q4 f4 l4 q5 f5 l5
            replace fa := fa.only on (by omega) (by omega)
            replace fb := fb.only on (by omega) (by omega)
            replace xm := on.bx (by omega) xm
            replace x11 := on.bx (by omega) x11
            replace x16 := on.bx (by omega) x16
            replace rdm := on.rd (by omega) rdm
            replace rr := on.rd (by omega) rr
            replace rd6 := on.rd (by omega) rd6
            replace B := bonly B on (by omega)
            clear x13
            have x13 := z
            clear z on
            refine (law_alike_ok fx fy fw fh _ _ _ _ _ _ (4 * M) _ _ (by omega) (by rw [List.length_map, List.length_range]) rr rd6).mono ?_
            rintro e wv ⟨rfl, hb⟩
            replace fa := fa.keep hb
            replace fb := fb.keep hb
            replace xm := xm.keep hb
            replace x11 := x11.keep hb
            replace x13 := x13.keep hb
            replace x16 := x16.keep hb
            replace rdm := rdm.keep hb
            replace rr := rr.keep hb
            replace rd6 := rd6.keep hb
            replace B := bcall B hb
            clear hb
            clear rr rd6
            clear hgs hgr hks hgr' hgs'
            obtain ⟨q0, f0, l0⟩ := fa.1.all
            obtain ⟨q1, f1, l1⟩ := fb.1.all
            obtain ⟨q2, f2, l2⟩ := xm.all
            obtain ⟨q3, f3, l3⟩ := x11.all
            obtain ⟨q4, f4, l4⟩ := x13.all
            obtain ⟨q5, f5, l5⟩ := x16.all
            go_wp2_with fail
            go_ret
            exact ⟨rfl, B⟩
        · refine (frame_Through_bad _ _ _ _ _ _ _ _ _ _ _ _ _ _ _ _ _ _ _ _ _ _ (by unfold maxLen; omega) (by unfold maxLen; omega) fa.chk fb.chk k hk.out hk0).mono ?_
          rintro e wv ⟨rfl, hb⟩
          clear q0 f0 l0 q1 f1 l1 q2 f2 l2 q3 f3 l3 q4 f4 l4
          replace fa := fa.keep hb
          replace fb := fb.keep hb
          replace xm := xm.keep hb
          replace x11 := x11.keep hb
          replace x13 := x13.keep hb
          replace B := bcall B hb
          clear hb
          obtain ⟨q0, f0, l0⟩ := fa.1.all
          obtain ⟨q1, f1, l1⟩ := fb.1.all
          obtain ⟨q2, f2, l2⟩ := xm.all
          obtain ⟨q3, f3, l3⟩ := x11.all
          obtain ⟨q4, f4, l4⟩ := x13.all
          go_wp2_with fail
          obtain ⟨z, on⟩ := set5 x11 (.int .i64 0) (.int .i64 0) (.int .i64 0) (.int .i64 0) (.slice none 0 0)
          refine nm_call ?_
          intro wn hwn
          rw [← hwn] at z on
          clear hwn
          clear q0 f0 l0 q1 f1 l1 q2 f2 l2 q3 f3 l3 q4 f4 l4
          replace fa := fa.only on (by omega) (by omega)
          replace fb := fb.only on (by omega) (by omega)
          replace xm := on.bx (by omega) xm
          replace x13 := on.bx (by omega) x13
          replace B := bonly B on (by omega)
          clear x11
          have x11 := z
          clear z on
          refine (ref_MatteError _ _ _ _ _ _ _ _).mono ?_
          rintro e wv ⟨rfl, hb⟩
          replace fa := fa.keep hb
          replace fb := fb.keep hb
          replace xm := xm.keep hb
          replace x11 := x11.keep hb
          replace x13 := x13.keep hb
          replace B := bcall B hb
          clear hb
          rw [hk.out]
          have hkb : (k == 0) = false := by simpa using hk0
          obtain ⟨q0, f0, l0⟩ := fa.1.all
          obtain ⟨q1, f1, l1⟩ := fb.1.all
          obtain ⟨q2, f2, l2⟩ := xm.all
          obtain ⟨q3, f3, l3⟩ := x11.all
          obtain ⟨q4, f4, l4⟩ := x13.all
          go_wp2_with fail
          go_ret
          exact ⟨ret_bool (by simp), B⟩
      · have hd := Lib.hid (And.intro a1 (And.intro a2 b1))
        clear a1 a2 b1 b2
        obtain ⟨q0, f0, l0⟩ := fa.1.all
        obtain ⟨q1, f1, l1⟩ := fb.1.all
        obtain ⟨q2, f2, l2⟩ := xm.all
        go_wp2_with fail
        refine (frame_Mix_place _ _ _ _ _ _ _ _ _ _ _ _ _ _ _ _ (by unfold maxLen; omega) (by unfold maxLen; omega) fa.chk fb.chk heq).mono ?_
        rintro e wv ⟨rfl, hb⟩
        clear q0 f0 l0 q1 f1 l1 q2 f2 l2
        replace fa := fa.keep hb
        replace fb := fb.keep hb
        replace xm := xm.keep hb
        replace B := bcall B hb
        have hgw1 : g1 < wv.heap.size := fa.2.1.lt
        have hgw2 : g2 < wv.heap.size := fb.2.1.lt
        have hxm : W.heap.size + 1 + 1 < wv.heap.size := xm.lt
        clear hb
        obtain ⟨q0, f0, l0⟩ := fa.1.all
        obtain ⟨q1, f1, l1⟩ := fb.1.all
        obtain ⟨q2, f2, l2⟩ := xm.all
        go_wp2_with fail
        refine nm_call ?_
        intro wn hwn
        have x11 : Bx wn wv.heap.size 26 #[.int .i64 0, .int .i64 0, .int .i64 0, .int .i64 0, .slice none 0 0] := by rw [hwn]; exact Bx.new _ _ _
        have hb : Below wv.heap.size wv wn := by rw [hwn]; exact bnew (Below.refl _ _)
        clear q0 f0 l0 q1 f1 l1 q2 f2 l2
        replace fa := fa.keep hb
        replace fb := fb.keep hb
        replace xm := xm.keep hb
        replace B := bcall B hb
        clear hwn hb
        generalize wv.heap.size = p11 at *
        refine (ref_Mix_place _ _ _ _ _ _ _ _ _ _ _ _ _ _ _ _ heq).mono ?_
        rintro e wv ⟨rfl, hb⟩
        replace fa := fa.keep hb
        replace fb := fb.keep hb
        replace xm := xm.keep hb
        replace x11 := x11.keep hb
        replace B := bcall B hb
        have hp13 : p11 < wv.heap.size := x11.lt
        clear hb
        obtain ⟨q0, f0, l0⟩ := fa.1.all
        obtain ⟨q1, f1, l1⟩ := fb.1.all
        obtain ⟨q2, f2, l2⟩ := xm.all
        obtain ⟨q3, f3, l3⟩ := x11.all
        go_wp2_with fail
        refine nm_call ?_
        intro wn hwn
        have x13 : Bx wn wv.heap.size 26 #[.int .i64 0, .int .i64 0, .int .i64 0, .int .i64 0, .slice none 0 0] := by rw [hwn]; exact Bx.new _ _ _
        have hb : Below wv.heap.size wv wn := by rw [hwn]; exact bnew (Below.refl _ _)
        clear q0 f0 l0 q1 f1 l1 q2 f2 l2 q3 f3 l3
        replace fa := fa.keep hb
        replace fb := fb.keep hb
        replace xm := xm.keep hb
        replace x11 := x11.keep hb
        replace B := bcall B hb
        clear hwn hb
        generalize wv.heap.size = p13 at *
        refine (law_alike_err 5 (by decide) _).mono ?_
        rintro e wv ⟨rfl, hb⟩
        replace fa := fa.keep hb
        replace fb := fb.keep hb
        replace xm := xm.keep hb
        replace x11 := x11.keep hb
        replace x13 := x13.keep hb
        replace B := bcall B hb
        clear hb
        obtain ⟨q0, f0, l0⟩ := fa.1.all
        obtain ⟨q1, f1, l1⟩ := fb.1.all
        obtain ⟨q2, f2, l2⟩ := xm.all
        obtain ⟨q3, f3, l3⟩ := x11.all
        obtain ⟨q4, f4, l4⟩ := x13.all
        go_wp2_with fail
        by_cases hk0 : k = 0
        · subst hk0
          have heq3 : ¬ (fx = gx ∧ fy = gy ∧ fw = gw ∧ fh = gh) := heq
          have hq3 := Lib.hid heq3
          clear heq3
          have hx := x13.lt
          refine (frame_Through_place _ _ _ _ _ _ _ _ _ _ _ _ _ _ _ _ _ _ _ _ _ _ (by unfold maxLen; omega) (by unfold maxLen; omega) fa.chk fb.chk hk.out (fun hh => hq3.out hh.1)).mono ?_
          rintro e wv ⟨rfl, hb⟩
          clear q0 f0 l0 q1 f1 l1 q2 f2 l2 q3 f3 l3 q4 f4 l4
          replace fa := fa.keep hb
          replace fb := fb.keep hb
          replace xm := xm.keep hb
          replace x11 := x11.keep hb
          replace x13 := x13.keep hb
          replace B := bcall B hb
          clear hb
          obtain ⟨q0, f0, l0⟩ := fa.1.all
          obtain ⟨q1, f1, l1⟩ := fb.1.all
          obtain ⟨q2, f2, l2⟩ := xm.all
          obtain ⟨q3, f3, l3⟩ := x11.all
          obtain ⟨q4, f4, l4⟩ := x13.all
          go_wp2_with fail
          clear hx
          obtain ⟨z, on⟩ := set5 x11 (.int .i64 0) (.int .i64 0) (.int .i64 0) (.int .i64 0) (.slice none 0 0)
          refine nm_call ?_
          intro wn hwn
          rw [← hwn] at z on
          clear hwn
          clear q0 f0 l0 q1 f1 l1 q2 f2 l2 q3 f3 l3 q4 f4 l4
          replace fa := fa.only on (by omega) (by omega)
          replace fb := fb.only on (by omega) (by omega)
          replace xm := on.bx (by omega) xm
          replace x13 := on.bx (by omega) x13
          replace B := bonly B on (by omega)
          clear x11
          have x11 := z
          clear z on
          refine (ref_MatteError _ _ _ _ _ _ _ _).mono ?_
          rintro e wv ⟨rfl, hb⟩
          replace fa := fa.keep hb
          replace fb := fb.keep hb
          replace xm := xm.keep hb
          replace x11 := x11.keep hb
          replace x13 := x13.keep hb
          replace B := bcall B hb
          clear hb
          rw [hk.out]
          obtain ⟨q0, f0, l0⟩ := fa.1.all
          obtain ⟨q1, f1, l1⟩ := fb.1.all
          obtain ⟨q2, f2, l2⟩ := xm.all
          obtain ⟨q3, f3, l3⟩ := x11.all
          obtain ⟨q4, f4, l4⟩ := x13.all
          go_wp2_with fail
          have hx := x13.lt
          refine (ref_Through_place _ _ _ _ _ _ _ _ _ _ _ _ _ _ _ _ _ _ _ _ _ _ (fun hh => hq3.out hh.1)).mono ?_
          rintro e wv ⟨rfl, hb⟩
          clear q0 f0 l0 q1 f1 l1 q2 f2 l2 q3 f3 l3 q4 f4 l4
          replace fa := fa.keep hb
          replace fb := fb.keep hb
          replace xm := xm.keep hb
          replace x11 := x11.keep hb
          replace x13 := x13.keep hb
          replace B := bcall B hb
          clear hb
          obtain ⟨q0, f0, l0⟩ := fa.1.all
          obtain ⟨q1, f1, l1⟩ := fb.1.all
          obtain ⟨q2, f2, l2⟩ := xm.all
          obtain ⟨q3, f3, l3⟩ := x11.all
          obtain ⟨q4, f4, l4⟩ := x13.all
          go_wp2_with fail
          clear hx
          obtain ⟨z, on⟩ := set5 x13 (.int .i64 0) (.int .i64 0) (.int .i64 0) (.int .i64 0) (.slice none 0 0)
          refine nm_call ?_
          intro wn hwn
          rw [← hwn] at z on
          clear hwn
          clear q0 f0 l0 q1 f1 l1 q2 f2 l2 q3 f3 l3 q4 f4 l4
          replace fa := fa.only on (by omega) (by omega)
          replace fb := fb.only on (by omega) (by omega)
          replace xm := on.bx (by omega) xm
          replace x11 := on.bx (by omega) x11
          replace B := bonly B on (by omega)
          clear x13
          have x13 := z
          clear z on
          refine (law_alike_err 5 (by decide) _).mono ?_
          rintro e wv ⟨rfl, hb⟩
          replace fa := fa.keep hb
          replace fb := fb.keep hb
          replace xm := xm.keep hb
          replace x11 := x11.keep hb
          replace x13 := x13.keep hb
          replace B := bcall B hb
          clear hb
          obtain ⟨q0, f0, l0⟩ := fa.1.all
          obtain ⟨q1, f1, l1⟩ := fb.1.all
          obtain ⟨q2, f2, l2⟩ := xm.all
          obtain ⟨q3, f3, l3⟩ := x11.all
          obtain ⟨q4, f4, l4⟩ := x13.all
          go_wp2_with fail
          have hpm : p13 < wv.heap.size := x13.lt
          refine (law_matteOf _ _ _ _ fx fy fw fh M _ ms _ (hs3.keep B) hd.out.2.1 (by omega) (by omega) (by omega) (by omega)).mono ?_
          rintro e wv ⟨gm, rfl, hgm, rowm, hb⟩
          clear q0 f0 l0 q1 f1 l1 q2 f2 l2 q3 f3 l3 q4 f4 l4
          replace fa := fa.keep hb
          replace fb := fb.keep hb
          replace xm := xm.keep hb
          replace x11 := x11.keep hb
          replace x13 := x13.keep hb
          replace B := bcall B hb
          have hpm2 : p13 < wv.heap.size := x13.lt
          have hgmp : p13 < gm := by omega
          clear hb
          have rdm := rowm.rd
          clear rowm
          obtain ⟨q0, f0, l0⟩ := fa.1.all
          obtain ⟨q1, f1, l1⟩ := fb.1.all
          obtain ⟨q2, f2, l2⟩ := xm.all
          obtain ⟨q3, f3, l3⟩ := x11.all
          obtain ⟨q4, f4, l4⟩ := x13.all
          go_wp2_with fail
          refine nm_call ?_
          intro wn hwn
          have x16 : Bx wn wv.heap.size 62 #[.int .i64 fx, .int .i64 fy, .int .i64 fw, .int .i64 fh, .slice (some ⟨gm, 0, none⟩) M M] := by rw [hwn]; exact Bx.new _ _ _
          have hb : Below wv.heap.size wv wn := by rw [hwn]; exact bnew (Below.refl _ _)
          clear q0 f0 l0 q1 f1 l1 q2 f2 l2 q3 f3 l3 q4 f4 l4
          replace fa := fa.keep hb
          replace fb := fb.keep hb
          replace xm := xm.keep hb
          replace x11 := x11.keep hb
          replace x13 := x13.keep hb
          replace rdm := rdm.keep hb
          replace B := bcall B hb
          clear hwn hb
          generalize wv.heap.size = p16 at *
          have hx := x13.lt
          refine (frame_Through_place _ _ _ _ _ _ _ _ _ _ _ _ _ _ _ _ _ _ _ _ _ _ (by unfold maxLen; omega) (by unfold maxLen; omega) fa.chk fb.chk (checkMatte_of fa.reg hd.out.2.1) (fun hh => heq hh.1)).mono ?_
          rintro e wv ⟨rfl, hb⟩
          replace fa := fa.keep hb
          replace fb := fb.keep hb
          replace xm := xm.keep hb
          replace x11 := x11.keep hb
          replace x13 := x13.keep hb
          replace x16 := x16.keep hb
          replace rdm := rdm.keep hb
          replace B := bcall B hb
          clear hb
          obtain ⟨q0, f0, l0⟩ := fa.1.all
          obtain ⟨q1, f1, l1⟩ := fb.1.all
          obtain ⟨q2, f2, l2⟩ := xm.all
          obtain ⟨q3, f3, l3⟩ := x11.all
          obtain ⟨q4, f4, l4⟩ := x13.all
          obtain ⟨q5, f5, l5⟩ := x16.all
          go_wp2_with fail
          clear hx
          obtain ⟨z, on⟩ := set5 x11 (.int .i64 0) (.int .i64 0) (.int .i64 0) (.int .i64 0) (.slice none 0 0)
          refine nm_call ?_
          intro wn hwn
          rw [← hwn] at z on
          clear hwn
          clear q0 f0 l0 q1 f1 l1 q2 f2 l2 q3 f3 l3 q4 f4 l4 q5 f5 l5
          replace fa := fa.only on (by omega) (by omega)
          replace fb := fb.only on (by omega) (by omega)
          replace xm := on.bx (by omega) xm
          replace x13 := on.bx (by omega) x13
          replace x16 := on.bx (by omega) x16
          replace rdm := on.rd (by omega) rdm
          replace B := bonly B on (by omega)
          clear x11
          have x11 := z
          clear z on
          have hx := x13.lt
          refine (ref_Through_place _ _ _ _ _ _ _ _ _ _ _ _ _ _ _ _ _ _ _ _ _ _ (fun hh => heq hh.1)).mono ?_
          rintro e wv ⟨rfl, hb⟩
          replace fa := fa.keep hb
          replace fb := fb.keep hb
          replace xm := xm.keep hb
          replace x11 := x11.keep hb
          replace x13 := x13.keep hb
          replace x16 := x16.keep hb
          replace rdm := rdm.keep hb
          replace B := bcall B hb
          clear hb
          obtain ⟨q0, f0, l0⟩ := fa.1.all
          obtain ⟨q1, f1, l1⟩ := fb.1.all
          obtain ⟨q2, f2, l2⟩ := xm.all
          obtain ⟨q3, f3, l3⟩ := x11.all
          obtain ⟨q4, f4, l4⟩ := x13.all
          obtain ⟨q5, f5, l5⟩ := x16.all
          go_wp2_with fail
          clear hx
          obtain ⟨z, on⟩ := set5 x13 (.int .i64 0) (.int .i64 0) (.int .i64 0) (.int .i64 0) (.slice none 0 0)
          refine nm_call ?_
          intro wn hwn
          rw [← hwn] at z on
          clear hwn
          clear q0 f0 l0 q1 f1 l1 q2 f2 l2 q3 f3 l3 q4 f4 l4 q5 f5 l5
          replace fa := fa.only on (by omega) (by omega)
          replace fb := fb.only on (by omega) (by omega)
          replace xm := on.bx (by omega) xm
          replace x11 := on.bx (by omega) x11
          replace x16 := on.bx (by omega) x16
          replace rdm := on.rd (by omega) rdm
          replace B := bonly B on (by omega)
          clear x13
          have x13 := z
          clear z on
          refine (law_alike_err 5 (by decide) _).mono ?_
          rintro e wv ⟨rfl, hb⟩
          replace fa := fa.keep hb
          replace fb := fb.keep hb
          replace xm := xm.keep hb
          replace x11 := x11.keep hb
          replace x13 := x13.keep hb
          replace x16 := x16.keep hb
          replace rdm := rdm.keep hb
          replace B := bcall B hb
          clear hb
          obtain ⟨q0, f0, l0⟩ := fa.1.all
          obtain ⟨q1, f1, l1⟩ := fb.1.all
          obtain ⟨q2, f2, l2⟩ := xm.all
          obtain ⟨q3, f3, l3⟩ := x11.all
          obtain ⟨q4, f4, l4⟩ := x13.all
          obtain ⟨q5, f5, l5⟩ := x16.all
          go_wp2_with fail
          go_ret
          exact ⟨rfl, B⟩
        · refine (frame_Through_bad _ _ _ _ _ _ _ _ _ _ _ _ _ _ _ _ _ _ _ _ _ _ (by unfold maxLen; omega) (by unfold maxLen; omega) fa.chk fb.chk k hk.out hk0).mono ?_
          rintro e wv ⟨rfl, hb⟩
          clear q0 f0 l0 q1 f1 l1 q2 f2 l2 q3 f3 l3 q4 f4 l4
          replace fa := fa.keep hb
          replace fb := fb.keep hb
          replace xm := xm.keep hb
          replace x11 := x11.keep hb
          replace x13 := x13.keep hb
          replace B := bcall B hb
          clear hb
          obtain ⟨q0, f0, l0⟩ := fa.1.all
          obtain ⟨q1, f1, l1⟩ := fb.1.all
          obtain ⟨q2, f2, l2⟩ := xm.all
          obtain ⟨q3, f3, l3⟩ := x11.all
          obtain ⟨q4, f4, l4⟩ := x13.all
          go_wp2_with fail
          obtain ⟨z, on⟩ := set5 x11 (.int .i64 0) (.int .i64 0) (.int .i64 0) (.int .i64 0) (.slice none 0 0)
          refine nm_call ?_
          intro wn hwn
          rw [← hwn] at z on
          clear hwn
          clear q0 f0 l0 q1 f1 l1 q2 f2 l2 q3 f3 l3 q4 f4 l4
          replace fa := fa.only on (by omega) (by omega)
          replace fb := fb.only on (by omega) (by omega)
          replace xm := on.bx (by omega) xm
          replace x13 := on.bx (by omega) x13
          replace B := bonly B on (by omega)
          clear x11
          have x11 := z
          clear z on
          refine (ref_MatteError _ _ _ _ _ _ _ _).mono ?_
          rintro e wv ⟨rfl, hb⟩
          replace fa := fa.keep hb
          replace fb := fb.keep hb
          replace xm := xm.keep hb
          replace x11 := x11.keep hb
          replace x13 := x13.keep hb
          replace B := bcall B hb
          clear hb
          rw [hk.out]
          have hkb : (k == 0) = false := by simpa using hk0
          obtain ⟨q0, f0, l0⟩ := fa.1.all
          obtain ⟨q1, f1, l1⟩ := fb.1.all
          obtain ⟨q2, f2, l2⟩ := xm.all
          obtain ⟨q3, f3, l3⟩ := x11.all
          obtain ⟨q4, f4, l4⟩ := x13.all
          go_wp2_with fail
          go_ret
          exact ⟨ret_bool (by simp), B⟩
end Go.Proofs.Ytoffnmpnhddaiaa
