/- PlanesMatch, walked. -/
import Derived.Test.YtoffnmpnhddaiaaFrL
import Derived.Test.YtoffnmpnhddaiaaCln
import Derived.Test.YtoffnmpnhddaiaaSame
import Derived.Test.YtoffnmpnhddaiaaReg
import Derived.Deep.RegionWith
namespace Go.Proofs.Ytoffnmpnhddaiaa
open Go.RowKit

/-- Four slices, of which the first k are planes of M singles. -/
def PartFour (w : World) (pb M k : Nat) (F : Nat → List Nat) : Prop :=
  ∃ ss : Array Value, Bx w pb 44 ss ∧ ss.size = 4 ∧ ∀ c, c < k → ∃ g, ss[c]? = some (.slice (some ⟨g, 0, none⟩) M M) ∧ pb < g ∧ Rd w g 0 (F c)
theorem PartFour.keep {w w' : World} {pb M k : Nat} {F : Nat → List Nat} (h : PartFour w pb M k F) (hb : Below w.heap.size w w') : PartFour w' pb M k F := by
  obtain ⟨ss, h1, h2, h4⟩ := h
  refine ⟨ss, h1.keep hb, h2, fun c hc => ?_⟩
  obtain ⟨g, e, l, r⟩ := h4 c hc
  exact ⟨g, e, l, r.keep hb⟩
theorem PartFour.set {w : World} {pb M k g : Nat} {F : Nat → List Nat} (h : PartFour w pb M k F) (hk : k < 4) (hr : Rd w g 0 (F k)) (hg : pb < g) :
    PartFour (w.setCell ⟨pb, k, none⟩ (.slice (some ⟨g, 0, none⟩) M M)) pb M (k + 1) F := by
  obtain ⟨ss, h1, h2, h4⟩ := h
  refine ⟨_, h1.set k _, by simp [h2], fun c hc => ?_⟩
  have on := (Only.refl pb w).set k (.slice (some ⟨g, 0, none⟩) M M)
  rcases Nat.lt_or_ge c k with hlt | hge
  · obtain ⟨g', e, l, r⟩ := h4 c hlt
    refine ⟨g', ?_, l, on.rd (by omega) r⟩
    rw [Array.getElem?_setIfInBounds, if_neg (by omega)]
    exact e
  · obtain rfl : c = k := by omega
    refine ⟨g, ?_, hg, on.rd (by omega) hr⟩
    rw [Array.getElem?_setIfInBounds, if_pos rfl, if_pos (by omega)]

theorem PartFour.four {w : World} {pb M : Nat} {F : Nat → List Nat} (h : PartFour w pb M 4 F) : ∃ g0 g1 g2 g3, Bx w pb 44 #[.slice (some ⟨g0, 0, none⟩) M M, .slice (some ⟨g1, 0, none⟩) M M, .slice (some ⟨g2, 0, none⟩) M M, .slice (some ⟨g3, 0, none⟩) M M] ∧
    Rd w g0 0 (F 0) ∧ Rd w g1 0 (F 1) ∧ Rd w g2 0 (F 2) ∧ Rd w g3 0 (F 3) := by
  obtain ⟨ss, h1, h2, h4⟩ := h
  obtain ⟨g0, e0, _, r0⟩ := h4 0 (by omega)
  obtain ⟨g1, e1, _, r1⟩ := h4 1 (by omega)
  obtain ⟨g2, e2, _, r2⟩ := h4 2 (by omega)
  obtain ⟨g3, e3, _, r3⟩ := h4 3 (by omega)
  have hss : ss = #[.slice (some ⟨g0, 0, none⟩) M M, .slice (some ⟨g1, 0, none⟩) M M, .slice (some ⟨g2, 0, none⟩) M M, .slice (some ⟨g3, 0, none⟩) M M] := by
    apply Array.ext
    · rw [h2]; rfl
    · intro i hi hi2
      rw [h2] at hi
      apply Option.some.inj
      rw [← Array.getElem?_eq_getElem, ← Array.getElem?_eq_getElem]
      match i, hi with
      | 0, _ => exact e0
      | 1, _ => exact e1
      | 2, _ => exact e2
      | 3, _ => exact e3
  rw [hss] at h1
  exact ⟨g0, g1, g2, g3, h1, r0, r1, r2, r3⟩

/-- The planes put together are the frame. -/
theorem planes_made (xs : List Nat) (M : Nat) : ((List.range (4 * M)).map fun k => canon ((planeL xs M (k % 4)).getD (k / 4) 0)) = madeL (fun p k => xs.getD (4 * p + k) 0) (4 * M) := by
  unfold madeL
  apply List.map_congr_left
  intro k hk
  have hk' := List.mem_range.1 hk
  have h : k / 4 < M := by omega
  simp [planeL, h, canon_idem]

/-- The state of the law ahead of the planes. -/
def PlSt (W : World) (g1 : Nat) (fx fy fw fh rx ry rw_ rh : Int) (M : Nat) (ys : List Nat) (sp : Array Value) (wx : World) : Prop :=
  Bx wx W.heap.size 26 #[.int .i64 fx, .int .i64 fy, .int .i64 fw, .int .i64 fh, .slice (some ⟨g1, 0, none⟩) (4 * M) (4 * M)] ∧ Bx wx (W.heap.size + 1) 23 #[.int .i64 rx, .int .i64 ry, .int .i64 rw_, .int .i64 rh] ∧
    Bx wx (W.heap.size + 1 + 1) 44 sp ∧ Rd wx g1 0 ys ∧ Below W.heap.size W wx

theorem PlSt.keep {W wx wy : World} {g1 : Nat} {fx fy fw fh rx ry rw_ rh : Int} {M : Nat} {ys : List Nat} {sp : Array Value} (h : PlSt W g1 fx fy fw fh rx ry rw_ rh M ys sp wx) (hb : Below wx.heap.size wx wy) : PlSt W g1 fx fy fw fh rx ry rw_ rh M ys sp wy := by
  obtain ⟨h0, h1, h2, hr, hB⟩ := h
  exact ⟨h0.keep hb, h1.keep hb, h2.keep hb, hr.keep hb, bcall hB hb⟩
theorem Sl.some' {w : World} {a : Option Addr} {n c : Nat} {xs : List Nat} (h : Sl w (.slice a n c) xs) (hn : 0 < n) : ∃ b o, a = some ⟨b, o, none⟩ ∧ xs.length = n ∧ Rd w b o xs := by
  rcases h with ⟨b, o, k, h1, _, h3⟩ | ⟨_, _, _, h1⟩
  · simp only [Value.slice.injEq] at h1
    obtain ⟨rfl, rfl, rfl⟩ := h1
    exact ⟨b, o, rfl, rfl, h3⟩
  · simp only [Value.slice.injEq] at h1
    omega
/-- What frame.Plane gives. -/
def PlaneOut (w : World) (ch : Int) (M : Nat) (ys : List Nat) (l er : Value) : Prop :=
  ((ch < 0 ∨ 3 < ch) ∧ l = .slice none 0 0 ∧ er = .int .i64 3) ∨ (∃ c g : Nat, ch = c ∧ c < 4 ∧ l = .slice (some ⟨g, 0, none⟩) M M ∧ er = .int .i64 0 ∧ Rd w g 0 (planeL ys M c))

set_option maxRecDepth 100000 in
set_option maxHeartbeats 4000000 in
theorem law_Planes (x y w h : Int) (v : Value) (xs : List Nat) (ch rx ry rw_ rh : Int) (a0 a1 a2 a3 : Option Addr) (n0 n1 n2 n3 c0 c1 c2 c3 : Nat) (F : Nat → List Nat) (W : World) (hs : Sl W v xs)
    (k0 : Sl W (.slice a0 n0 c0) (F 0)) (k1 : Sl W (.slice a1 n1 c1) (F 1)) (k2 : Sl W (.slice a2 n2 c2) (F 2)) (k3 : Sl W (.slice a3 n3 c3) (F 3)) :
    Calls Try.prog 5 #[.agg #[.int .i64 x, .int .i64 y, .int .i64 w, .int .i64 h, v], .int .i64 ch, .agg #[.int .i64 rx, .int .i64 ry, .int .i64 rw_, .int .i64 rh], .agg #[.slice a0 n0 c0, .slice a1 n1 c1, .slice a2 n2 c2, .slice a3 n3 c3]] W fun e w' =>
      e = .returned (.bool true) ∧ Below W.heap.size W w' := by
  have hv1 : v.cells = #[v] := by rcases hs with ⟨b, o, c, rfl, _⟩ | ⟨_, a, c, rfl⟩ <;> rfl
  go_enter Try.func5, Try.ntmps5
  go_wp2_with (go_at_call 15; refine (law_landed _).mono ?_; rintro e w' ⟨rfl, rfl⟩)
  refine nm_call ?_
  intro wa hwa
  have x0 : Bx wa W.heap.size 26 #[.int .i64 x, .int .i64 y, .int .i64 w, .int .i64 h, v] := by rw [hwa]; exact Bx.alloc (Bx.alloc (Bx.new _ _ _) _) _
  have x1 : Bx wa (W.heap.size + 1) 23 #[.int .i64 rx, .int .i64 ry, .int .i64 rw_, .int .i64 rh] := by rw [hwa]; exact Bx.alloc (Bx.at _ (by simp)) _
  have x2 : Bx wa (W.heap.size + 1 + 1) 44 #[.slice a0 n0 c0, .slice a1 n1 c1, .slice a2 n2 c2, .slice a3 n3 c3] := by rw [hwa]; exact Bx.at _ (by simp)
  have Ba : Below W.heap.size W wa := by rw [hwa]; exact bnew (bnew (bnew (Below.refl _ W)))
  clear hwa
  refine (law_fit _ _ _ _ _ _ _ (hs.keep Ba)).mono ?_
  rintro e w1 ⟨g1, N1, hN1, rfl, hg1, row1, hb1⟩
  have y0 := x0.keep hb1
  have y1 := x1.keep hb1
  have y2 := x2.keep hb1
  have B1 := bcall Ba hb1
  have lx2 := x2.lt
  clear x0 x1 x2 hb1 Ba
  obtain ⟨q0, f0, l0⟩ := y0.all
  have sd1 := fitSide_bd w
  have sd2 := fitSide_bd h
  have sp1 := fitPlace_bd x
  have sp2 := fitPlace_bd y
  generalize fitSide w = fw at *
  generalize fitSide h = fh at *
  generalize fitPlace x = fx at *
  generalize fitPlace y = fy at *
  go_upto_region 4 with fail
  obtain ⟨z0, on1⟩ := set5 y0 (.int .i64 fx) (.int .i64 fy) (.int .i64 fw) (.int .i64 fh) (.slice (some ⟨g1, 0, none⟩) N1 N1)
  refine name_world ?_
  intro w3 hw3
  rw [← hw3] at z0 on1
  clear hw3
  have z1 := on1.bx (by omega) y1
  have z2 := on1.bx (by omega) y2
  have rd3 := (on1.row (by omega) row1).rd
  have B3 := bonly B1 on1 (by omega)
  clear y0 y1 y2 q0 f0 l0 B1 row1 on1 lx2 hg1
  obtain ⟨M, hM, hNM⟩ := four_of hN1
  obtain rfl : N1 = 4 * M := hNM
  have hcr := fitted_ok sd1.1 sd1.2 sd2.1 sd2.2 sp1.1 sp1.2 sp2.1 sp2.2
  have hck := checkFrame_of hcr hN1
  have hxs : (fitV xs (4 * M)).length = 4 * M := fitV_len _ _
  generalize fitV xs (4 * M) = ys at *
  have hM1 : 1 ≤ M := by
    have : 1 * 1 ≤ fw * fh := Int.mul_le_mul (by omega) (by omega) (by omega) (by omega)
    omega
  have hM2 : M ≤ 64 := by
    have : fw * fh ≤ 8 * 8 := Int.mul_le_mul (by omega) (by omega) (by omega) (by omega)
    omega
  have Hk := Lib.hid (And.intro hck (And.intro hM (And.intro hcr hxs)))
  have st3 : PlSt W g1 fx fy fw fh rx ry rw_ rh M ys #[.slice a0 n0 c0, .slice a1 n1 c1, .slice a2 n2 c2, .slice a3 n3 c3] w3 := ⟨z0, z1, z2, rd3, B3⟩
  clear hck hM hN1 hcr hxs
  clear z0 z1 z2 rd3 B3
  go_cut [9, 10] (fun l er wx => PlSt W g1 fx fy fw fh rx ry rw_ rh M ys #[.slice a0 n0 c0, .slice a1 n1 c1, .slice a2 n2 c2, .slice a3 n3 c3] wx ∧ PlaneOut wx ch M ys l er)
  case first =>
    obtain ⟨z0, z1, z2, rd3, B3⟩ := id st3
    obtain ⟨q0, f0, l0⟩ := z0.all
    go_wp2_with fail
    by_cases hch : ch < 0 ∨ 3 < ch
    · refine (frame_Plane_bad _ _ _ _ ch _ _ _ _ _ Hk.out.1 (by unfold maxLen; omega) hch).mono ?_
      rintro e w4 ⟨rfl, hb4⟩
      have st4 := st3.keep hb4
      go_wp2_with fail
      go_meet
      exact ⟨st4, .inl ⟨hch, rfl, rfl⟩⟩
    · obtain ⟨c, rfl⟩ := Int.eq_ofNat_of_zero_le (show 0 ≤ ch by omega)
      have hc4 : c < 4 := by omega
      refine (frame_Plane _ _ _ _ _ _ _ _ M c ys _ Hk.out.1 Hk.out.2.1 (by omega) rfl hc4 Hk.out.2.2.2 rd3 (by omega) (by omega) (by omega) (by omega)).mono ?_
      rintro e w4 ⟨g, rfl, hg, hrow, hb4⟩
      have st4 := st3.keep hb4
      go_wp2_with fail
      go_meet
      exact ⟨st4, .inr ⟨c, g, rfl, hc4, rfl, rfl, hrow.rd⟩⟩
  case rest =>
    obtain ⟨st4, hpo⟩ := hcut
    clear st3
    rename_i hK0
    refine hK0 _ _ ?_
    clear hK0
    refine wp_seq_k ?_
    intro K1 hK1
    go_cut [] (fun wx => PlSt W g1 fx fy fw fh rx ry rw_ rh M ys #[.slice a0 n0 c0, .slice a1 n1 c1, .slice a2 n2 c2, .slice a3 n3 c3] wx)
    case first =>
      rcases hpo with ⟨hch, rfl, rfl⟩ | ⟨c, g, rfl, hc, rfl, rfl, hrl⟩
      · rcases hch with hch | hch
        · go_wp2_with fail
          go_meet
          exact st4
        · have h0 : ¬ ch < 0 := by omega
          go_wp2_with fail
          go_meet
          exact st4
      · obtain ⟨z0, z1, z2, rd3, B3⟩ := id st4
        obtain ⟨q0, f0, l0⟩ := z0.all
        have h0 : ¬ ((c : Int) < 0) := by omega
        have h3 : ¬ (3 < (c : Int)) := by omega
        go_wp2_with fail
        refine (ref_Plane _ _ _ _ _ _ _ _ M c ys _ (by omega) rfl hc Hk.out.2.2.2 rd3).mono ?_
        rintro e w5 ⟨v5, rfl, how, hb5⟩
        obtain ⟨g5, cc, rfl, hcc, hg5, hrow⟩ := how.rd (fun h => by have := planeL_len ys M c; rw [h] at this; simp at this; omega)
        rw [planeL_len] at hcc ⊢
        have st5 := st4.keep hb5
        have hl5 := hrl.keep hb5
        clear st4 hrl how hb5 q0 f0 l0 z0 z1 z2
        go_wp2_with fail
        refine (slices_EqualF _ _ _ _ _ _ M (planeL ys M c) _ (by omega) (planeL_len _ _ _) hl5 hrow).mono ?_
        rintro e w6 ⟨rfl, hb6⟩
        have st6 := st5.keep hb6
        clear st5 hl5 hrow hb6
        go_wp2_with fail
        go_meet
        exact st6
    case rest =>
      have st5 := hcut
      clear st4 hpo
      go_wp2_with fail
      refine name_world ?_
      intro wb hwb
      have hpb : W.heap.size + 1 + 1 < wc.heap.size := by obtain ⟨_, _, z2, _⟩ := id st5; exact z2.lt
      have pf0 : PartFour wb wc.heap.size M 0 (planeL ys M) := by rw [hwb]; exact ⟨_, Bx.new _ _ _, rfl, fun c hc => absurd hc (by omega)⟩
      have st6 : PlSt W g1 fx fy fw fh rx ry rw_ rh M ys #[.slice a0 n0 c0, .slice a1 n1 c1, .slice a2 n2 c2, .slice a3 n3 c3] wb := by rw [hwb]; exact st5.keep ((Below.refl _ _).alloc (Nat.le_refl _) _)
      have hg1p : g1 < wc.heap.size := by obtain ⟨_, _, _, r, _⟩ := id st5; exact r.lt
      have hpb0 : W.heap.size ≤ wc.heap.size := by obtain ⟨_, _, _, _, r⟩ := id st5; exact r.size
      clear hwb st5
      generalize wc.heap.size = pb at *
      go_loopw [50] (fun i wr => ∃ k : Nat, k ≤ 4 ∧ i = .int .i64 k ∧ PartFour wr pb M k (planeL ys M) ∧ PlSt W g1 fx fy fw fh rx ry rw_ rh M ys #[.slice a0 n0 c0, .slice a1 n1 c1, .slice a2 n2 c2, .slice a3 n3 c3] wr) (fun i _ => 4 - (intOf i).toNat)
      case atStart => exact ⟨0, by omega, rfl, pf0, st6⟩
      case round =>
        clear pf0 st6
        obtain ⟨k, hk, rfl, hpf, hst⟩ := hrel
        obtain ⟨z0, z1, z2, rd3, B3⟩ := id hst
        obtain ⟨q0, f0, l0⟩ := z0.all
        by_cases hlt : k < 4
        · have hki : (k : Int) < 4 := by omega
          have hpl : pb < wr.heap.size := by obtain ⟨_, x, _⟩ := id hpf; exact x.lt
          go_wp2_with fail
          refine (frame_Plane _ _ _ _ _ _ _ _ M k ys _ Hk.out.1 Hk.out.2.1 (by omega) rfl hlt Hk.out.2.2.2 rd3 (by omega) (by omega) (by omega) (by omega)).mono ?_
          rintro e w4 ⟨g, rfl, hg, hrow, hb4⟩
          have pf4 := hpf.keep hb4
          have st4 := hst.keep hb4
          have hgp : pb < g := by omega
          clear hpf hst hb4 q0 f0 l0 z0 z1 z2 rd3 B3 hg hpl
          obtain ⟨ss, xp, hss, hpp⟩ := id pf4
          obtain ⟨qp, fp, lp⟩ := xp.all
          have hcell : w4.cell? ⟨pb, k, none⟩ = some (ss[k]'(by omega)) := (qp k).trans (by simp [hss, hlt])
          clear qp hpp
          go_wp2_with fail
          go_roundw
          case rel =>
            refine ⟨k + 1, by omega, by go_num, pf4.set hlt hrow.rd hgp, ?_⟩
            obtain ⟨z0, z1, z2, rd3, B3⟩ := st4
            have on := (Only.refl pb w4).set k (.slice (some ⟨g, 0, none⟩) M M)
            exact ⟨on.bx (by omega) z0, on.bx (by omega) z1, on.bx (by omega) z2, on.rd (by omega) rd3, bonly B3 on hpb0⟩
          case measure => simp [intOf]; omega
        · have hk4 : k = 4 := by omega
          subst hk4
          obtain ⟨p0, p1, p2, p3, xp, r0, r1, r2, r3⟩ := hpf.four
          obtain ⟨qp, fp, lp⟩ := xp.all
          go_wp2_with fail
          refine (frame_FromPlanes fx fy fw fh M _ _ _ _ _ _ _ _ _ _ _ _ (planeL ys M) _ Hk.out.2.2.1 Hk.out.2.1 (fun c _ => planeL_len _ _ _) r0 r1 r2 r3).mono ?_
          rintro e w4 ⟨gf, rfl, hgf, hrowf, hb4⟩
          rw [planes_made] at hrowf
          have st4 := hst.keep hb4
          clear hpf hst hb4 q0 f0 l0 z0 z1 z2 rd3 B3 xp qp fp lp r0 r1 r2 r3
          go_wp2_with fail
          obtain ⟨fwN, rfl⟩ := Int.eq_ofNat_of_zero_le (show 0 ≤ fw by omega)
          obtain ⟨fhN, rfl⟩ := Int.eq_ofNat_of_zero_le (show 0 ≤ fh by omega)
          have hMn : M = fwN * fhN := by have := Hk.out.2.1; exact_mod_cast this
          have HMn := Lib.hid hMn
          clear hMn
          refine name_world ?_
          intro w5 hw5
          have xg : Bx w5 w4.heap.size 26 #[.int .i64 fx, .int .i64 fy, .int .i64 fwN, .int .i64 fhN, .slice (some ⟨gf, 0, none⟩) (4 * M) (4 * M)] := by rw [hw5]; exact Bx.new _ _ _
          have B45 : Below w4.heap.size w4 w5 := by rw [hw5]; exact bnew (Below.refl _ _)
          have st5 := st4.keep B45
          have rdf := hrowf.rd.keep B45
          have hgt : W.heap.size + 1 + 1 < w4.heap.size := by obtain ⟨_, _, z2, _⟩ := id st4; exact z2.lt
          clear hw5 st4 hrowf B45
          generalize w4.heap.size = gt at *
          go_cut [77] (fun b wx => b = .bool false ∧ PlSt W g1 fx fy fwN fhN rx ry rw_ rh M ys #[.slice a0 n0 c0, .slice a1 n1 c1, .slice a2 n2 c2, .slice a3 n3 c3] wx ∧ Bx wx gt 26 #[.int .i64 fx, .int .i64 fy, .int .i64 fwN, .int .i64 fhN, .slice (some ⟨gf, 0, none⟩) (4 * M) (4 * M)])
          case first =>
            obtain ⟨z0, z1, z2, rd3, B3⟩ := id st5
            obtain ⟨q0, f0, l0⟩ := z0.all
            obtain ⟨qg, fg, lg⟩ := xg.all
            have hlen := Hk.out.2.2.2
            have HL := Lib.hid hlen
            clear hlen
            go_region_with (first
              | (go_at_call 30; refine (ref_Clean fx fy fwN fhN M g1 0 _ _ ys _ (by omega) (by omega) (by omega) (by omega) (by omega) (by omega) (by omega) (by omega) HMn.out (by omega) rfl (Nat.le_refl _) HL.out (show Rd w5.drew g1 0 ys from rd3)).mono ?_; rintro e w6 ⟨g6, c6, rfl, hc6, hg6, rd6, hb6⟩; have xg6 := (show Bx w5.drew _ _ _ from xg).keep hb6; have st6 := (st5.keep ((Below.refl _ _).drew)).keep hb6; have rdf6 := (show Rd w5.drew gf 0 _ from rdf).keep hb6; obtain ⟨qg6, fg6, lg6⟩ := xg6.all)
              | (go_at_call 29; refine (ref_SameFrame _ _ _ _ _ _ _ _ _ _ _ _ _ (by omega) (madeL_len _ _) rdf6 rd6).mono ?_; rintro e w7 ⟨rfl, hb7⟩; have st7 := st6.keep hb7; have xg7 := xg6.keep hb7))
            all_goals
              go_wp2_with fail
              go_meet
              exact ⟨rfl, st7, xg7⟩
          case rest =>
            obtain ⟨rfl, st6, xg6⟩ := hcut
            clear st5 xg rdf
            obtain ⟨_, z1, z2, _, B6⟩ := st6
            have hgt1 : W.heap.size + 1 ≠ gt := by omega
            have hgt2 : W.heap.size + 1 + 1 ≠ gt := by omega
            obtain ⟨q1, f1, l1⟩ := z1.all
            obtain ⟨q2, f2, l2⟩ := z2.all
            have s0 := k0.keep B6
            have s1 := k1.keep B6
            have s2 := k2.keep B6
            have s3 := k3.keep B6
            clear k0 k1 k2 k3 hs
            by_cases hk : checkRegion rx ry rw_ rh = 0
            · obtain ⟨t1, t2, t3, t4, t5, _⟩ := checkRegion_zero hk
              obtain ⟨M', hM'⟩ : ∃ M' : Nat, (M' : Int) = rw_ * rh := ⟨(rw_ * rh).toNat, by have := mul_bd rw_ rh t1 t2 t3 t4; omega⟩
              have hwr : wrap64 (rw_ * rh) = (M' : Int) := (wrap_mul rw_ rh t1 t2 t3 t4).trans hM'.symm
              have hM1' : 0 < M' := by have := mul_bd rw_ rh t1 t2 t3 t4; omega
              have Hkk := Lib.hid (And.intro hk hM')
              clear hk hM' t5
              by_cases hall : n0 = M' ∧ n1 = M' ∧ n2 = M' ∧ n3 = M'
              · obtain ⟨e0, e1, e2, e3⟩ := hall
                obtain rfl : M' = n0 := e0.symm
                obtain rfl : M' = n1 := e1.symm
                obtain rfl : M' = n2 := e2.symm
                obtain rfl : M' = n3 := e3.symm
                clear e0 e1 e2 e3
                obtain ⟨b0, o0, rfl, m0, r0⟩ := s0.some' hM1'
                obtain ⟨b1, o1, rfl, m1, r1⟩ := s1.some' hM1'
                obtain ⟨b2, o2, rfl, m2, r2⟩ := s2.some' hM1'
                obtain ⟨b3, o3, rfl, m3, r3⟩ := s3.some' hM1'
                have hl : ∀ c, c < 4 → (F c).length = M' := fun c hc => by match c, hc with | 0, _ => exact m0 | 1, _ => exact m1 | 2, _ => exact m2 | 3, _ => exact m3
                clear m0 m1 m2 m3 s0 s1 s2 s3
                have Hl := Lib.hid hl
                clear hl
                go_wp2_with fail
                refine (frame_FromPlanes rx ry rw_ rh M' _ _ _ _ _ _ _ _ _ _ _ _ F _ Hkk.out.1 Hkk.out.2 Hl.out r0 r1 r2 r3).mono ?_
                rintro e w8 ⟨gn, rfl, _, _, hb8⟩
                clear r0 r1 r2 r3
                have u1 := z1.keep hb8
                have u2 := z2.keep hb8
                have ug := xg6.keep hb8
                have B8 := bcall B6 hb8
                clear z1 z2 q1 f1 l1 q2 f2 l2 xg6 B6 hb8
                obtain ⟨q1, f1, l1⟩ := u1.all
                obtain ⟨q2, f2, l2⟩ := u2.all
                obtain ⟨qg, fg, lg⟩ := ug.all
                go_wp2_with fail
                refine (ref_RegionError _ _ _ _ _).mono ?_
                rw [Hkk.out.1]
                rintro e w9 ⟨rfl, hb9⟩
                obtain ⟨vg, ong⟩ := set5 ug (.int .i64 rx) (.int .i64 ry) (.int .i64 rw_) (.int .i64 rh) (.slice (some ⟨gn, 0, none⟩) (4 * M') (4 * M'))
                have v1 := (ong.bx hgt1 u1).keep hb9
                have v2 := (ong.bx hgt2 u2).keep hb9
                have vg9 := vg.keep hb9
                have B9 := bcall (bonly B8 ong (by omega)) hb9
                clear u1 u2 ug vg ong q1 f1 l1 q2 f2 l2 qg fg lg B8 hb9
                obtain ⟨q1, f1, l1⟩ := v1.all
                obtain ⟨q2, f2, l2⟩ := v2.all
                obtain ⟨qg, fg, lg⟩ := vg9.all
                have j0 : ∀ w, (Instr.index 44 (.agg #[.slice (some ⟨b0, o0, none⟩) M' c0, .slice (some ⟨b1, o1, none⟩) M' c1, .slice (some ⟨b2, o2, none⟩) M' c2, .slice (some ⟨b3, o3, none⟩) M' c3]) (.int .i64 0)).run Try.prog w = .ok (.slice (some ⟨b0, o0, none⟩) M' c0) w := fun _ => by kernel_rfl
                have j1 : ∀ w, (Instr.index 44 (.agg #[.slice (some ⟨b0, o0, none⟩) M' c0, .slice (some ⟨b1, o1, none⟩) M' c1, .slice (some ⟨b2, o2, none⟩) M' c2, .slice (some ⟨b3, o3, none⟩) M' c3]) (.int .i64 1)).run Try.prog w = .ok (.slice (some ⟨b1, o1, none⟩) M' c1) w := fun _ => by kernel_rfl
                have j2 : ∀ w, (Instr.index 44 (.agg #[.slice (some ⟨b0, o0, none⟩) M' c0, .slice (some ⟨b1, o1, none⟩) M' c1, .slice (some ⟨b2, o2, none⟩) M' c2, .slice (some ⟨b3, o3, none⟩) M' c3]) (.int .i64 2)).run Try.prog w = .ok (.slice (some ⟨b2, o2, none⟩) M' c2) w := fun _ => by kernel_rfl
                have j3 : ∀ w, (Instr.index 44 (.agg #[.slice (some ⟨b0, o0, none⟩) M' c0, .slice (some ⟨b1, o1, none⟩) M' c1, .slice (some ⟨b2, o2, none⟩) M' c2, .slice (some ⟨b3, o3, none⟩) M' c3]) (.int .i64 3)).run Try.prog w = .ok (.slice (some ⟨b3, o3, none⟩) M' c3) w := fun _ => by kernel_rfl
                go_wp2_with fail
                go_loopw [14, 87] (fun u i wr => ∃ k : Nat, k ≤ 4 ∧ i = .int .i64 k ∧ u = .int .i64 0 ∧ wr = w9) (fun _ i _ => 4 - (intOf i).toNat)
                case atStart => exact ⟨0, by omega, rfl, rfl, rfl⟩
                case round =>
                  obtain ⟨k, hk4, rfl, rfl, rfl⟩ := hrel
                  match k, hk4 with
                  | 0, _ | 1, _ | 2, _ | 3, _ =>
                    go_wp2_with fail
                    first | exact ⟨⟨1, by omega, rfl, rfl, trivial⟩, by simp [intOf]⟩ | exact ⟨⟨2, by omega, rfl, rfl, trivial⟩, by simp [intOf]⟩ | exact ⟨⟨3, by omega, rfl, rfl, trivial⟩, by simp [intOf]⟩ | exact ⟨⟨4, by omega, rfl, rfl, trivial⟩, by simp [intOf]⟩
                  | 4, _ =>
                    go_wp2_with fail
                    go_ret
                    exact ⟨ret_bool (by simp), B9⟩
              · have Hall := Lib.hid hall
                clear s0 s1 s2 s3
                go_wp2_with fail
                refine (frame_FromPlanes_len rx ry rw_ rh M' n0 n1 n2 n3 _ _ _ _ _ _ _ _ _ Hkk.out.1 Hkk.out.2 Hall.out).mono ?_
                rintro e w8 ⟨rfl, hb8⟩
                clear hall
                have u1 := z1.keep hb8
                have u2 := z2.keep hb8
                have ug := xg6.keep hb8
                have B8 := bcall B6 hb8
                clear z1 z2 q1 f1 l1 q2 f2 l2 xg6 B6 hb8
                obtain ⟨q1, f1, l1⟩ := u1.all
                obtain ⟨q2, f2, l2⟩ := u2.all
                obtain ⟨qg, fg, lg⟩ := ug.all
                go_wp2_with fail
                refine (ref_RegionError _ _ _ _ _).mono ?_
                rw [Hkk.out.1]
                rintro e w9 ⟨rfl, hb9⟩
                obtain ⟨vg, ong⟩ := set5 ug (.int .i64 0) (.int .i64 0) (.int .i64 0) (.int .i64 0) (.slice none 0 0)
                have v1 := (ong.bx hgt1 u1).keep hb9
                have v2 := (ong.bx hgt2 u2).keep hb9
                have vg9 := vg.keep hb9
                have B9 := bcall (bonly B8 ong (by omega)) hb9
                clear u1 u2 ug vg ong q1 f1 l1 q2 f2 l2 qg fg lg B8 hb9
                obtain ⟨q1, f1, l1⟩ := v1.all
                obtain ⟨q2, f2, l2⟩ := v2.all
                obtain ⟨qg, fg, lg⟩ := vg9.all
                have j0 : ∀ w, (Instr.index 44 (.agg #[.slice a0 n0 c0, .slice a1 n1 c1, .slice a2 n2 c2, .slice a3 n3 c3]) (.int .i64 0)).run Try.prog w = .ok (.slice a0 n0 c0) w := fun _ => by kernel_rfl
                have j1 : ∀ w, (Instr.index 44 (.agg #[.slice a0 n0 c0, .slice a1 n1 c1, .slice a2 n2 c2, .slice a3 n3 c3]) (.int .i64 1)).run Try.prog w = .ok (.slice a1 n1 c1) w := fun _ => by kernel_rfl
                have j2 : ∀ w, (Instr.index 44 (.agg #[.slice a0 n0 c0, .slice a1 n1 c1, .slice a2 n2 c2, .slice a3 n3 c3]) (.int .i64 2)).run Try.prog w = .ok (.slice a2 n2 c2) w := fun _ => by kernel_rfl
                have j3 : ∀ w, (Instr.index 44 (.agg #[.slice a0 n0 c0, .slice a1 n1 c1, .slice a2 n2 c2, .slice a3 n3 c3]) (.int .i64 3)).run Try.prog w = .ok (.slice a3 n3 c3) w := fun _ => by kernel_rfl
                go_wp2_with fail
                go_loopw [14, 87] (fun u i wr => ∃ k : Nat, k ≤ 4 ∧ i = .int .i64 k ∧ wr = w9 ∧ ((u = .int .i64 0 ∧ Hid ((0 < k → n0 = M') ∧ (1 < k → n1 = M') ∧ (2 < k → n2 = M') ∧ (3 < k → n3 = M'))) ∨ u = .int .i64 2)) (fun _ i _ => 4 - (intOf i).toNat)
                case atStart => exact ⟨0, by omega, rfl, rfl, .inl ⟨rfl, Lib.hid ⟨by omega, by omega, by omega, by omega⟩⟩⟩
                case round =>
                  obtain ⟨k, hk4, rfl, rfl, hu⟩ := hrel
                  rcases hu with ⟨rfl, Hk2⟩ | rfl
                  · match k, hk4, Hk2 with
                    | 0, _, Hk2 =>
                      by_cases h0 : n0 = M'
                      · have e0 : (n0 : Int) = (M' : Int) := by omega
                        have Hk' : Hid ((0 < 1 → n0 = M') ∧ (1 < 1 → n1 = M') ∧ (2 < 1 → n2 = M') ∧ (3 < 1 → n3 = M')) := Lib.hid ⟨fun _ => h0, by omega, by omega, by omega⟩
                        clear h0 Hk2
                        go_wp2_with fail
                        exact ⟨⟨1, by omega, rfl, trivial, .inl ⟨rfl, Hk'⟩⟩, by simp [intOf]⟩
                      · have e0 : ¬ (n0 : Int) = (M' : Int) := by omega
                        clear h0 Hk2
                        go_wp2_with fail
                        exact ⟨⟨1, by omega, rfl, trivial, .inr rfl⟩, by simp [intOf]⟩
                    | 1, _, Hk2 =>
                      by_cases h0 : n1 = M'
                      · have e0 : (n1 : Int) = (M' : Int) := by omega
                        have Hk' : Hid ((0 < 2 → n0 = M') ∧ (1 < 2 → n1 = M') ∧ (2 < 2 → n2 = M') ∧ (3 < 2 → n3 = M')) := Lib.hid ⟨fun _ => Hk2.out.1 (by omega), fun _ => h0, by omega, by omega⟩
                        clear h0 Hk2
                        go_wp2_with fail
                        exact ⟨⟨2, by omega, rfl, trivial, .inl ⟨rfl, Hk'⟩⟩, by simp [intOf]⟩
                      · have e0 : ¬ (n1 : Int) = (M' : Int) := by omega
                        clear h0 Hk2
                        go_wp2_with fail
                        exact ⟨⟨2, by omega, rfl, trivial, .inr rfl⟩, by simp [intOf]⟩
                    | 2, _, Hk2 =>
                      by_cases h0 : n2 = M'
                      · have e0 : (n2 : Int) = (M' : Int) := by omega
                        have Hk' : Hid ((0 < 3 → n0 = M') ∧ (1 < 3 → n1 = M') ∧ (2 < 3 → n2 = M') ∧ (3 < 3 → n3 = M')) := Lib.hid ⟨fun _ => Hk2.out.1 (by omega), fun _ => Hk2.out.2.1 (by omega), fun _ => h0, by omega⟩
                        clear h0 Hk2
                        go_wp2_with fail
                        exact ⟨⟨3, by omega, rfl, trivial, .inl ⟨rfl, Hk'⟩⟩, by simp [intOf]⟩
                      · have e0 : ¬ (n2 : Int) = (M' : Int) := by omega
                        clear h0 Hk2
                        go_wp2_with fail
                        exact ⟨⟨3, by omega, rfl, trivial, .inr rfl⟩, by simp [intOf]⟩
                    | 3, _, Hk2 =>
                      by_cases h0 : n3 = M'
                      · have e0 : (n3 : Int) = (M' : Int) := by omega
                        have Hk' : Hid ((0 < 4 → n0 = M') ∧ (1 < 4 → n1 = M') ∧ (2 < 4 → n2 = M') ∧ (3 < 4 → n3 = M')) := Lib.hid ⟨fun _ => Hk2.out.1 (by omega), fun _ => Hk2.out.2.1 (by omega), fun _ => Hk2.out.2.2.1 (by omega), fun _ => h0⟩
                        clear h0 Hk2
                        go_wp2_with fail
                        exact ⟨⟨4, by omega, rfl, trivial, .inl ⟨rfl, Hk'⟩⟩, by simp [intOf]⟩
                      · have e0 : ¬ (n3 : Int) = (M' : Int) := by omega
                        clear h0 Hk2
                        go_wp2_with fail
                        exact ⟨⟨4, by omega, rfl, trivial, .inr rfl⟩, by simp [intOf]⟩
                    | 4, _, Hk2 => exact absurd ⟨Hk2.out.1 (by omega), Hk2.out.2.1 (by omega), Hk2.out.2.2.1 (by omega), Hk2.out.2.2.2 (by omega)⟩ Hall.out
                  · match k, hk4 with
                    | 0, _ | 1, _ | 2, _ | 3, _ =>
                      go_wp2_with fail
                      first | exact ⟨⟨1, by omega, rfl, trivial, .inr rfl⟩, by simp [intOf]⟩ | exact ⟨⟨2, by omega, rfl, trivial, .inr rfl⟩, by simp [intOf]⟩ | exact ⟨⟨3, by omega, rfl, trivial, .inr rfl⟩, by simp [intOf]⟩ | exact ⟨⟨4, by omega, rfl, trivial, .inr rfl⟩, by simp [intOf]⟩
                    | 4, _ =>
                      go_wp2_with fail
                      go_ret
                      exact ⟨ret_bool (by simp), B9⟩
            · generalize hkk : checkRegion rx ry rw_ rh = kk at hk
              have hb : (kk == 0) = false := by simpa using hk
              have Hkk := Lib.hid hkk
              go_wp2_with fail
              refine (frame_FromPlanes_bad rx ry rw_ rh kk _ _ _ _ _ Hkk.out hk).mono ?_
              rintro e w8 ⟨rfl, hb8⟩
              clear hkk s0 s1 s2 s3
              have u1 := z1.keep hb8
              have u2 := z2.keep hb8
              have ug := xg6.keep hb8
              have B8 := bcall B6 hb8
              clear z1 z2 q1 f1 l1 q2 f2 l2 xg6 B6 hb8
              obtain ⟨q1, f1, l1⟩ := u1.all
              obtain ⟨q2, f2, l2⟩ := u2.all
              obtain ⟨qg, fg, lg⟩ := ug.all
              go_wp2_with fail
              refine (ref_RegionError _ _ _ _ _).mono ?_
              rw [Hkk.out]
              rintro e w9 ⟨rfl, hb9⟩
              obtain ⟨vg, ong⟩ := set5 ug (.int .i64 0) (.int .i64 0) (.int .i64 0) (.int .i64 0) (.slice none 0 0)
              have v1 := (ong.bx hgt1 u1).keep hb9
              have v2 := (ong.bx hgt2 u2).keep hb9
              have vg9 := vg.keep hb9
              have B9 := bcall (bonly B8 ong (by omega)) hb9
              clear u1 u2 ug vg ong q1 f1 l1 q2 f2 l2 qg fg lg B8 hb9
              obtain ⟨q1, f1, l1⟩ := v1.all
              obtain ⟨q2, f2, l2⟩ := v2.all
              obtain ⟨qg, fg, lg⟩ := vg9.all
              have j0 : ∀ w, (Instr.index 44 (.agg #[.slice a0 n0 c0, .slice a1 n1 c1, .slice a2 n2 c2, .slice a3 n3 c3]) (.int .i64 0)).run Try.prog w = .ok (.slice a0 n0 c0) w := fun _ => by kernel_rfl
              have j1 : ∀ w, (Instr.index 44 (.agg #[.slice a0 n0 c0, .slice a1 n1 c1, .slice a2 n2 c2, .slice a3 n3 c3]) (.int .i64 1)).run Try.prog w = .ok (.slice a1 n1 c1) w := fun _ => by kernel_rfl
              have j2 : ∀ w, (Instr.index 44 (.agg #[.slice a0 n0 c0, .slice a1 n1 c1, .slice a2 n2 c2, .slice a3 n3 c3]) (.int .i64 2)).run Try.prog w = .ok (.slice a2 n2 c2) w := fun _ => by kernel_rfl
              have j3 : ∀ w, (Instr.index 44 (.agg #[.slice a0 n0 c0, .slice a1 n1 c1, .slice a2 n2 c2, .slice a3 n3 c3]) (.int .i64 3)).run Try.prog w = .ok (.slice a3 n3 c3) w := fun _ => by kernel_rfl
              go_wp2_with fail
              go_loopw [14, 87] (fun u i wr => ∃ k : Nat, k ≤ 4 ∧ i = .int .i64 k ∧ u = .int .i64 kk ∧ wr = w9) (fun _ i _ => 4 - (intOf i).toNat)
              case atStart => exact ⟨0, by omega, rfl, rfl, rfl⟩
              case round =>
                obtain ⟨k, hk4, rfl, rfl, rfl⟩ := hrel
                match k, hk4 with
                | 0, _ | 1, _ | 2, _ | 3, _ =>
                  go_wp2_with fail
                  first | exact ⟨⟨1, by omega, rfl, rfl, trivial⟩, by simp [intOf]⟩ | exact ⟨⟨2, by omega, rfl, rfl, trivial⟩, by simp [intOf]⟩ | exact ⟨⟨3, by omega, rfl, rfl, trivial⟩, by simp [intOf]⟩ | exact ⟨⟨4, by omega, rfl, rfl, trivial⟩, by simp [intOf]⟩
                | 4, _ =>
                  go_wp2_with fail
                  go_ret
                  exact ⟨ret_bool (by simp), B9⟩
end Go.Proofs.Ytoffnmpnhddaiaa
