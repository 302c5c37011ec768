/- dyeref1.Sources of a right list. -/
import Derived.Test.YteebkfdocdmboaaDoorEmD
namespace Go.Proofs.YteebkfdocdmboaaDoor
open Go.RowKit

theorem toList_ne' {a b : ByteArray} (h : ¬ a = b) : ¬ a.toList = b.toList := by
  intro e
  rw [Lib.toList_data, Lib.toList_data] at e
  exact h (ByteArray.ext (Array.toList_inj.1 e))
set_option maxRecDepth 100000 in
set_option maxHeartbeats 2000000 in
theorem ref_Sources_bad (title : ByteArray) (rate : Int) (v : Value) (es : List Ev) (h : Int) (W : World) (hs : SlE W v es) (hh : h < 0 ∨ 1000 < h) :
    Calls Tryd.prog 10 #[.agg #[.string title, .int .i64 rate, v], .int .i64 h] W fun e w' => e = .returned (.tuple #[.slice none 0 0, .int .i64 3]) ∧ Below W.heap.size W w' := by
  obtain ⟨a, c, rfl, _, _⟩ := hs
  generalize es.length = n
  by_cases h0 : h < 0
  all_goals
    first | (have h2 : 1000 < h := by omega) | skip
    clear hh
    go_enter Tryd.func10, Tryd.ntmps10
    go_wp2_with fail
    go_ret2
    exact ⟨rfl, bnew (Below.refl _ W)⟩

set_option maxRecDepth 100000 in
set_option maxHeartbeats 16000000 in
theorem ref_Sources (title : ByteArray) (rate : Int) (v : Value) (es : List Ev) (h : Int) (W : World) (hs : SlE W v es) (hok : evsTo es es.length = 0) (hlen : es.length ≤ 500) (h0 : 0 ≤ h) (h1 : h ≤ 1000) :
    Calls Tryd.prog 10 #[.agg #[.string title, .int .i64 rate, v], .int .i64 h] W fun e w' => ∃ sv L, e = .returned (.tuple #[sv, .int .i64 0]) ∧ IsSrc es h L ∧ OwnQ W.heap.size w' sv L ∧ Below W.heap.size W w' := by
  have n0 : ¬ h < 0 := by omega
  have n1 : ¬ 1000 < h := by omega
  obtain ⟨a, c, rfl, hmax, hform⟩ := hs
  have hv := pulls_vp hok h0 h1
  have hpl := pullsL_len es h
  obtain ⟨n, hn⟩ : ∃ n, n = es.length := ⟨_, rfl⟩
  rw [← hn] at hmax hlen hform hpl ⊢
  have Hok := Lib.hid hok
  have HV := Lib.hid hv
  have Hn := Lib.hid hn
  clear hok hv hn hmax
  go_enter Tryd.func10, Tryd.ntmps10
  go_upto_region 1 with fail
  refine name_world ?_
  intro w0 hw0
  have x2 : Bx w0 W.heap.size 24 #[.string title, .int .i64 rate, .slice a n c] := by rw [hw0]; exact Bx.new _ _ _
  have B0 : Below W.heap.size W w0 := by rw [hw0]; exact bnew (Below.refl _ W)
  have hs0 : w0.heap.size = W.heap.size + 1 := by rw [hw0]; simp
  clear hw0
  obtain ⟨q2, f2, l2⟩ := x2.all
  go_wp2_with fail
  clear q2 f2 l2
  go_loopw [6, 23] (fun sv iv wr => ∃ k : Nat, k ≤ n ∧ iv = .int .i64 (k : Int) ∧ OwnQ (W.heap.size + 1) wr sv ((pullsL es h).take k) ∧ Below (W.heap.size + 1) w0 wr) (fun _ iv _ => n - (intOf iv).toNat)
  case atStart => exact ⟨0, Nat.zero_le _, rfl, World.ownsRow_nil _ _ _ _, Below.refl _ _⟩
  case round =>
    obtain ⟨k, hk, rfl, own, B⟩ := hrel
    have x3 := x2.below B (by omega)
    have hsz := B.size
    rw [hs0] at hsz
    by_cases hlt : k < n
    · rcases hform with hf | ⟨b, o, rfl, hbl, hat⟩
      · exfalso
        have := Hn.out
        rw [hf] at this
        simp at this
        omega
      have HAt := Lib.hid hat
      have hB2 : Below W.heap.size W wr := B0.trans (B.mono (by omega))
      obtain ⟨c0, c1, c2, c3, c4, c5⟩ := (hat k hlt).keep hB2 hbl
      obtain ⟨b1, b2, b3, b4, b5, _, _⟩ := ev_bd Hok.out (k := k) (by rw [← Hn.out]; exact hlt)
      have hps := pullsL_take (h := h) (show k < es.length by rw [← Hn.out]; exact hlt)
      have hnl := nextLen_bd Hok.out k
      have hpa : pullAt es h k = ⟨(es.getD k default).reel, max ((es.getD k default).inn - h) 0, (es.getD k default).out + h + nextLen es k⟩ := rfl
      have hnx : nextLen es k = if k + 1 < n then (es.getD (k + 1) default).len else 0 := by unfold nextLen; rw [Hn.out]
      clear hat
      generalize pullAt es h k = pk at hps hpa
      generalize nextLen es k = nl at hnl hpa hnx
      generalize (es.getD k default).reel = reel at c0 hpa
      generalize (es.getD k default).kind = kind at c1
      generalize (es.getD k default).len = len at c2
      generalize (es.getD k default).inn = inn at c3 b1 b2 hpa
      generalize (es.getD k default).out = out at c4 b2 b3 hpa
      generalize (es.getD k default).pos = pos at c5 b4 b5
      obtain ⟨mi, hmi⟩ : ∃ mi, imax (inn - h) 0 = mi := ⟨_, rfl⟩
      have hmi2 : max (inn - h) 0 = mi := by rw [← hmi]; unfold imax; split <;> omega
      rw [hmi2] at hpa
      have Hpk := Lib.hid (And.intro hps hpa)
      have Hnx := Lib.hid hnx
      clear hps hpa hmi2 hnx
      have hki : (k : Int) < (n : Int) := by omega
      have Hlt := Lib.hid (OwnQ.base own)
      go_upto_region 7 with fail
      refine name_world ?_
      intro w3 hw3
      have x8 : Bx w3 wr.heap.size 48 #[.string reel, .int .i64 kind, .int .i64 len, .int .i64 inn, .int .i64 out, .int .i64 pos] := by rw [hw3]; exact Bx.new _ _ _
      have hb3 : Below wr.heap.size wr w3 := by rw [hw3]; exact bnew (Below.refl _ _)
      clear hw3 c0 c1 c2 c3 c4 c5
      replace x3 := x3.keep hb3
      replace own := own.keep hb3
      have B3 := B.trans (hb3.mono (by omega))
      have hB3 := hB2.trans (hb3.mono (by omega))
      have hs3 := hb3.size
      clear hb3
      generalize wr.heap.size = p8 at *
      obtain ⟨q8, f8, l8⟩ := x8.all
      go_upto_region 8 with fail
      refine name_world ?_
      intro w4 hw4
      have x9 : Bx w4 w3.heap.size 38 #[.string reel, .int .i64 mi, .int .i64 (out + h)] := by rw [hw4]; exact Bx.new _ _ _
      have hb4 : Below w3.heap.size w3 w4 := by rw [hw4]; exact bnew (Below.refl _ _)
      clear hw4 q8 f8 l8
      replace x3 := x3.keep hb4
      replace own := own.keep hb4
      have B4 := B3.trans (hb4.mono (by omega))
      have hB4 := hB3.trans (hb4.mono (by omega))
      have hs4 := hb4.size
      clear hb4 x8 B3 hB3 hB2
      have l9 := x9.lt
      have h9 : W.heap.size < w3.heap.size := by omega
      generalize w3.heap.size = p9 at *
      have Hne := Lib.hid (show ∀ g, u6.ownBlock = some g → g ≠ p9 from fun g hg => by have := (Hlt.out g hg).2; omega)
      by_cases hnx : k + 1 < n
      · have hkn : (k : Int) + 1 < (n : Int) := by omega
        obtain ⟨d0, d1, d2, d3, d4, d5⟩ := (HAt.out (k + 1) hnx).keep hB4 hbl
        have hnl2 : (es.getD (k + 1) default).len = nl := by have := Hnx.out; rw [if_pos hnx] at this; exact this.symm
        rw [hnl2] at d2
        clear d0 d1 d3 d4 d5 hnl2
        obtain ⟨q9, f9, _⟩ := x9.all
        obtain ⟨q3, f3, l3⟩ := x3.all
        have hbw : b < w4.heap.size := by have := hB4.size; omega
        have hk1 : (0 : Int) ≤ (k : Int) + 1 := by omega
        go_upto_region 9 with fail
        refine wp_region_tail (fun z : BW w4.heap.size w4 => z.w) 10 (by kernel_rfl) (by kernel_rfl) (BW.start _ _) rfl ?_
        simp only [List.take_succ_cons, List.take_zero, List.drop_succ_cons, List.drop_zero]
        repeat (go_big_quiet_step (fail))
        refine wpQuiet_nil ?_
        intro z
        have y9 := x9.keep z.below
        have own5 := own.keep z.below
        have B5z := B4.trans (z.below.mono (by omega))
        generalize z.w = wz at *
        clear q9 f9 q3 f3 l3 d2
        obtain ⟨q9, f9, l9z⟩ := y9.all
        go_upto_region 10 with fail
        refine name_world ?_
        intro w5 hw5
        have x9b : Bx w5 p9 38 #[.string reel, .int .i64 mi, .int .i64 (out + h + nl)] := by rw [hw5]; simpa using y9.set 2 (.int .i64 (out + h + nl))
        have B5 : Below (W.heap.size + 1) w0 w5 := by rw [hw5]; exact Below.set' (by omega) B5z
        replace own : OwnQ (W.heap.size + 1) w5 u6 ((pullsL es h).take k) := by
          rw [hw5]
          exact own_keepg own5 (fun g hg _ => by rw [Below.heap_setCell _ _ _ _ (by
            have := Hne.out g hg
            dsimp only; omega)])
        clear hw5 y9 own5 B5z q9 f9 l9z x9 z
        obtain ⟨q9, f9, l9z⟩ := x9b.all
        go_wp2_with (at_builtin; refine pl_append (B := W.heap.size + 1) (p := ⟨reel, mi, out + h + nl⟩) rfl (.tmp 57) (.tmp 59) rfl rfl w5.heap.size rfl (OwnQ.keep own (bnew (Below.refl _ _))) (Bx.new _ _ _) ?cl ?cB ?_)
        case cl => first | omega | (rw [List.length_take]; omega)
        case cB => have := B5.size; simp; omega
        intro v' w6 own6 ap
        have B6 := ap.below (bnew' B5 (by omega)) (Nat.le_refl _) (by have := B5.size; simp; omega) (fun g hg => (OwnQ.base own g hg).1)
        have hpe : (pullsL es h).take (k + 1) = (pullsL es h).take k ++ [⟨reel, mi, out + h + nl⟩] := by rw [Hpk.out.1, Hpk.out.2]
        rw [← hpe] at own6
        have H6 := Lib.hid (And.intro own6 B6)
        clear own6 B6 ap hpe own
        go_wp2_with fail
        go_roundw
        case rel => exact ⟨k + 1, hlt, by go_num, H6.out.1, H6.out.2⟩
        case measure => simp [intOf] <;> omega
      · have hkn : ¬ (k : Int) + 1 < (n : Int) := by omega
        have hnl2 : nl = 0 := by have := Hnx.out; rw [if_neg hnx] at this; exact this
        rw [show out + h = out + h + nl by omega] at x9
        clear hnl2
        obtain ⟨q9, f9, _⟩ := x9.all
        obtain ⟨q3, f3, l3⟩ := x3.all
        go_upto_region 10 with fail
        refine name_world ?_
        intro w5 hw5
        have hb5 : Below w4.heap.size w4 w5 := by rw [hw5]; first | exact Below.refl _ _ | exact (Below.refl _ _).drew | exact below_drewN (Below.refl _ _) _
        have x9b := x9.keep hb5
        replace own := own.keep hb5
        have B5 := B4.trans (hb5.mono (by omega))
        clear hw5 hb5 q9 f9 q3 f3 l3 x9
        obtain ⟨q9, f9, l9z⟩ := x9b.all
        go_wp2_with (at_builtin; refine pl_append (B := W.heap.size + 1) (p := ⟨reel, mi, out + h + nl⟩) rfl (.tmp 57) (.tmp 59) rfl rfl w5.heap.size rfl (OwnQ.keep own (bnew (Below.refl _ _))) (Bx.new _ _ _) ?cl ?cB ?_)
        case cl => first | omega | (rw [List.length_take]; omega)
        case cB => have := B5.size; simp; omega
        intro v' w6 own6 ap
        have B6 := ap.below (bnew' B5 (by omega)) (Nat.le_refl _) (by have := B5.size; simp; omega) (fun g hg => (OwnQ.base own g hg).1)
        have hpe : (pullsL es h).take (k + 1) = (pullsL es h).take k ++ [⟨reel, mi, out + h + nl⟩] := by rw [Hpk.out.1, Hpk.out.2]
        rw [← hpe] at own6
        have H6 := Lib.hid (And.intro own6 B6)
        clear own6 B6 ap hpe own
        go_wp2_with fail
        go_roundw
        case rel => exact ⟨k + 1, hlt, by go_num, H6.out.1, H6.out.2⟩
        case measure => simp [intOf] <;> omega
    · obtain rfl : k = n := by omega
      rw [show (pullsL es h).take k = pullsL es h from List.take_of_length_le (by omega)] at own
      have B1 : Below W.heap.size W wr := B0.trans (B.mono (by omega))
      have hpl2 := Lib.hid hpl
      clear x3 B x2 B0 hform hpl
      rcases own.form with ⟨hnil, rfl⟩ | ⟨g, cap, rfl, hg, hgl, hcap, row⟩
      · have hk0 : k = 0 := by have := hpl2.out; rw [hnil] at this; simpa using this.symm
        go_wp2_with fail
        refine (sq_nil _ _).mono ?_
        rintro e w2 ⟨rfl, rfl⟩
        go_wp2_with fail
        go_loopw [10, 66] (fun sv iv wr => sv = .slice none 0 0 ∧ iv = .int .i64 0 ∧ wr = w2) (fun _ _ _ => 0)
        case atStart => exact ⟨rfl, rfl, by trivial⟩
        case round =>
          obtain ⟨rfl, rfl, rfl⟩ := hrel
          go_wp2_with fail
          go_ret2
          refine ⟨_, [], rfl, ⟨[], List.Pairwise.nil, ?_, (fun _ h => by cases h), rfl⟩, World.ownsRow_nil _ _ _ _, B1⟩
          rw [hnil]; exact St.Stb.refl _
      · have hsrt := sq_SortStable g (pullsL es h).length cap _ cR Vp cmpQR cR_ord (by have := hpl2.out; omega) (pullsL es h) wr row HV.out
        rw [hpl2.out] at hsrt ⊢
        clear row
        go_wp2_with fail
        refine hsrt.mono ?_
        rintro e w2 ⟨rfl, Z, row, sZ, tZ, vZ, oth⟩
        have B2 := B1.trans (oth.below (by omega) B1.size)
        have hgl2 := row.lt
        have HZ := Lib.hid (And.intro sZ (And.intro tZ vZ))
        clear sZ tZ vZ oth B1 hsrt hgl
        go_wp2_with fail
        go_loopw [10, 66] (fun sv iv wr => ∃ j : Nat, j ≤ k ∧ iv = .int .i64 (j : Int) ∧ OwnQ w2.heap.size wr sv (mList (Z.take j)) ∧ Below w2.heap.size w2 wr) (fun _ iv _ => k - (intOf iv).toNat)
        case atStart => exact ⟨0, Nat.zero_le _, rfl, World.ownsRow_nil _ _ _ _, Below.refl _ _⟩
        case round =>
          obtain ⟨j, hj, rfl, own, B⟩ := hrel
          have rowj := row.below B hgl2
          by_cases hlt : j < k
          · obtain ⟨c0, c1, c2⟩ := rowj.cell j hlt
            have hts : Z.take (j + 1) = Z.take j ++ [Z.getD j default] := by
              have hl : j < Z.length := by have := row.len; omega
              rw [List.take_succ_eq_append_getElem hl]
              congr 2
              simp [List.getD_eq_getElem?_getD, hl]
            have hms : mList (Z.take (j + 1)) = mStep (mList (Z.take j)) (Z.getD j default) := by rw [hts, mList_snoc]
            have hml : (mList (Z.take j)).length ≤ 500 := by
              have := mList_len (Z.take j)
              rw [List.length_take] at this
              omega
            have lg := rowj.lt
            have hszb := B.size
            clear hts rowj
            generalize Z.getD j default = p at c0 c1 c2 hms
            obtain ⟨pr, pi, po⟩ := p
            generalize mList (Z.take j) = O at hms hml own
            have Hms := Lib.hid hms
            clear hms
            have hji : (j : Int) < (k : Int) := by omega
            go_upto_region 17 with fail
            refine name_world ?_
            intro w3 hw3
            have x12 : Bx w3 wr.heap.size 38 #[.string pr, .int .i64 pi, .int .i64 po] := by rw [hw3]; exact Bx.new _ _ _
            have hb3 : Below wr.heap.size wr w3 := by rw [hw3]; exact bnew (Below.refl _ _)
            have hob := Lib.hid (OwnQ.base own)
            replace own := own.keep hb3
            have B3 := B.trans (hb3.mono hszb)
            clear hw3 hb3 c0 c1 c2 lg B
            have l12 := x12.lt
            generalize wr.heap.size = p12 at *
            by_cases hO : O = []
            · subst hO
              rcases own.form with ⟨_, rfl⟩ | ⟨gs, cap2, rfl, _, _, _, _⟩
              all_goals
                go_upto_region 18 with fail
                go_quiet (fail)
                go_upto_region 20 with fail
                refine name_world ?_
                intro w5 hw5
                have hb5 : Below w3.heap.size w3 w5 := by rw [hw5]; first | exact Below.refl _ _ | exact (Below.refl _ _).drew | exact below_drewN (Below.refl _ _) _
                have x12b := x12.keep hb5
                replace own := own.keep hb5
                have B5 := B3.trans (hb5.mono (by omega))
                clear hw5 hb5 x12 
                obtain ⟨q12, f12, l12b⟩ := x12b.all
                have hB5 := B5.size
                go_wp2_with (at_builtin; refine pl_append (B := w2.heap.size) (p := ⟨pr, pi, po⟩) rfl (.tmp 110) (.tmp 112) rfl rfl w5.heap.size rfl (OwnQ.keep own (bnew (Below.refl _ _))) (Bx.new _ _ _) (by first | omega | (simp; done) | (simp; omega)) (by simp; omega) ?_)
                intro v' w6 own6 ap
                have B6 := ap.below (bnew' B5 (by have := B5.size; omega)) (Nat.le_refl _) (by have := B5.size; simp; omega) (fun g hg => (OwnQ.base own g hg).1)
                have hpe : mList (Z.take (j + 1)) = [⟨pr, pi, po⟩] := by rw [Hms.out]; rfl
                rw [← hpe] at own6
                have H6 := Lib.hid (And.intro own6 B6)
                clear own6 B6 ap hpe own
                go_wp2_with fail
                go_roundw
                case rel => exact ⟨j + 1, hlt, by go_num, H6.out.1, H6.out.2⟩
                case measure => simp [intOf] <;> omega
            · rcases own.form with ⟨h9, _⟩ | ⟨gs, cap2, rfl, hgs, hgsl, hcap2, rowO⟩
              · exact absurd h9 hO
              have hOp : 0 < O.length := List.length_pos_iff.2 hO
              clear hO
              obtain ⟨D, q, rfl⟩ := St.split_last hOp
              clear hOp
              obtain ⟨⟨e0, e1, e2⟩, _⟩ := rowQ_at (i := D.length) rowO rfl rfl
              have fO : ∀ o, w3.frozen? ⟨gs, o, none⟩ = false := rowO.frozen
              have hl : (D ++ [q]).length = D.length + 1 := by simp
              obtain ⟨qr, qi, qo⟩ := q
              have Hown := Lib.hid (show OwnQ w2.heap.size w3 (.slice (some ⟨gs, 0, none⟩) (D ++ [(⟨qr, qi, qo⟩ : Pl)]).length cap2) (D ++ [⟨qr, qi, qo⟩]) from own)
              rw [hl] at own hml hcap2 ⊢
              have hgp : gs < p12 := (hob.out gs (by rfl)).2
              have Hl := Lib.hid hl
              clear hl rowO
              obtain ⟨m, hm⟩ : ∃ m, m = D.length := ⟨_, rfl⟩
              have Hm := Lib.hid hm
              rw [← hm] at own hml hcap2 e0 e1 e2 ⊢
              clear hm
              have g1 : (0 : Int) < (m : Int) + 1 := by omega
              have g2 : IntKind.i64.wrap ((m : Int) + 1 - 1) = (m : Int) := by rw [IntKind.wrap_i64]; omega
              have g3 : (m : Int) < (m : Int) + 1 := by omega
              have g4 : (0 : Int) ≤ (m : Int) := by omega
              obtain ⟨r12, s12, _⟩ := x12.all
              by_cases hr : qr = pr
              · subst hr
                by_cases hi : pi ≤ qo
                · go_upto_region 18 with fail
                  go_quiet (fail)
                  go_upto_region 19 with fail
                  refine name_world ?_
                  intro w5 hw5
                  have hb5 : Below w3.heap.size w3 w5 := by rw [hw5]; first | exact Below.refl _ _ | exact (Below.refl _ _).drew | exact below_drewN (Below.refl _ _) _
                  have x12b := x12.keep hb5
                  have d2 : w5.cell? ⟨gs, m * 3 + 2, none⟩ = some (.int .i64 qo) := by rw [hb5.cell (p := ⟨gs, m * 3 + 2, none⟩) hgsl]; exact e2
                  have own5 := Hown.out.keep hb5
                  have B5 := B3.trans (hb5.mono (by omega))
                  have hgs5 : gs < w5.heap.size := Nat.lt_of_lt_of_le hgsl hb5.size
                  clear hw5 hb5 x12 e0 e1 e2 r12 s12 own fO
                  obtain ⟨r12, s12, l12b⟩ := x12b.all
                  refine wp_region_tail (fun z : BW w5.heap.size w5 => z.w) 12 (by kernel_rfl) (by kernel_rfl) (BW.start _ _) rfl ?_
                  simp only [List.take_succ_cons, List.take_zero, List.drop_succ_cons, List.drop_zero]
                  repeat (go_big_quiet_step (fail))
                  refine wpQuiet_nil ?_
                  intro z
                  have own6 := own5.keep z.below
                  have B6 := B5.trans (z.below.mono B5.size)
                  have d2z : z.w.cell? ⟨gs, m * 3 + 2, none⟩ = some (.int .i64 qo) := by rw [z.below.cell (p := ⟨gs, m * 3 + 2, none⟩) hgs5]; exact d2
                  have fz : ∀ o, z.w.frozen? ⟨gs, o, none⟩ = false := by
                    rcases own6.form with ⟨h9, _⟩ | ⟨gx, cx, h9, _, _, _, rx⟩
                    · simp at h9
                    · injection h9 with h9 _ _
                      injection h9 with h9
                      injection h9 with h9
                      subst h9
                      exact rx.frozen
                  have hgz : gs < z.w.heap.size := Nat.lt_of_lt_of_le hgs5 z.below.size
                  generalize z.w = wz at *
                  clear d2 r12 s12 x12b z
                  have own7 := own6.setOut (imax qo po)
                  have B7 : Below w2.heap.size w2 (wz.setCell ⟨gs, m * 3 + 2, none⟩ (.int .i64 (imax qo po))) := Below.set' (by omega) B6
                  have hpe : mList (Z.take (j + 1)) = D ++ [⟨qr, qi, imax qo po⟩] := by rw [Hms.out, mStep_snoc, if_pos ⟨rfl, hi⟩, imax_max]
                  rw [← hpe, Hl.out, ← Hm.out] at own7
                  have H7 := Lib.hid (And.intro own7 B7)
                  clear own7 B7 own6 own5 B6 B5 hpe
                  go_wp2_with fail
                  go_roundw
                  case rel => exact ⟨j + 1, hlt, by go_num, H7.out.1, H7.out.2⟩
                  case measure => simp [intOf] <;> omega
                · go_upto_region 18 with fail
                  go_quiet (fail)
                  go_upto_region 20 with fail
                  refine name_world ?_
                  intro w5 hw5
                  have hb5 : Below w3.heap.size w3 w5 := by rw [hw5]; first | exact Below.refl _ _ | exact (Below.refl _ _).drew | exact below_drewN (Below.refl _ _) _
                  have x12b := x12.keep hb5
                  replace own := own.keep hb5
                  have B5 := B3.trans (hb5.mono (by omega))
                  clear hw5 hb5 x12 e0 e1 e2 r12 s12
                  obtain ⟨q12, f12, l12b⟩ := x12b.all
                  have hB5 := B5.size
                  go_wp2_with (at_builtin; refine pl_append (B := w2.heap.size) (p := ⟨qr, pi, po⟩) rfl (.tmp 110) (.tmp 112) rfl rfl w5.heap.size rfl (OwnQ.keep own (bnew (Below.refl _ _))) (Bx.new _ _ _) (by rw [Hl.out, ← Hm.out]; omega) (by simp; omega) ?_)
                  intro v' w6 own6 ap
                  have B6 := ap.below (bnew' B5 (by have := B5.size; omega)) (Nat.le_refl _) (by have := B5.size; simp; omega) (fun g hg => (OwnQ.base own g hg).1)
                  have hpe : mList (Z.take (j + 1)) = D ++ [⟨qr, qi, qo⟩, ⟨qr, pi, po⟩] := by rw [Hms.out]; rw [mStep_snoc, if_neg (fun h => by have := h.2; simp only at this; omega)]; simp
                  rw [← hpe] at own6
                  have H6 := Lib.hid (And.intro own6 B6)
                  clear own6 B6 ap hpe own
                  go_wp2_with fail
                  go_roundw
                  case rel => exact ⟨j + 1, hlt, by go_num, H6.out.1, H6.out.2⟩
                  case measure => simp [intOf] <;> omega
              · have Hr := Lib.hid hr
                have hr2 : (qr == pr) = false := by rw [bytes_beq]; exact decide_eq_false hr
                have hr4 : (qr.toList == pr.toList) = false := by simpa using toList_ne' hr
                go_upto_region 18 with fail
                go_quiet (fail)
                go_upto_region 20 with fail
                refine name_world ?_
                intro w5 hw5
                have hb5 : Below w3.heap.size w3 w5 := by rw [hw5]; first | exact Below.refl _ _ | exact (Below.refl _ _).drew | exact below_drewN (Below.refl _ _) _
                have x12b := x12.keep hb5
                replace own := own.keep hb5
                have B5 := B3.trans (hb5.mono (by omega))
                clear hw5 hb5 x12 e0 e1 e2 r12 s12
                obtain ⟨q12, f12, l12b⟩ := x12b.all
                have hB5 := B5.size
                go_wp2_with (at_builtin; refine pl_append (B := w2.heap.size) (p := ⟨pr, pi, po⟩) rfl (.tmp 110) (.tmp 112) rfl rfl w5.heap.size rfl (OwnQ.keep own (bnew (Below.refl _ _))) (Bx.new _ _ _) (by rw [Hl.out, ← Hm.out]; omega) (by simp; omega) ?_)
                intro v' w6 own6 ap
                have B6 := ap.below (bnew' B5 (by have := B5.size; omega)) (Nat.le_refl _) (by have := B5.size; simp; omega) (fun g hg => (OwnQ.base own g hg).1)
                have hpe : mList (Z.take (j + 1)) = D ++ [⟨qr, qi, qo⟩, ⟨pr, pi, po⟩] := by rw [Hms.out]; rw [mStep_snoc, if_neg (fun h => Hr.out h.1)]; simp
                rw [← hpe] at own6
                have H6 := Lib.hid (And.intro own6 B6)
                clear own6 B6 ap hpe own
                go_wp2_with fail
                go_roundw
                case rel => exact ⟨j + 1, hlt, by go_num, H6.out.1, H6.out.2⟩
                case measure => simp [intOf] <;> omega
          · obtain rfl : j = k := by omega
            go_wp2_with fail
            go_ret2
            refine ⟨_, mList (Z.take j), rfl, ⟨Z, HZ.out.1, HZ.out.2.1, HZ.out.2.2, ?_⟩, ?_, ?_⟩
            · rw [List.take_of_length_le (by have := row.len; omega)]
            · exact own_mono3 own B2.size
            · exact B2.trans (B.mono B2.size)
end Go.Proofs.YteebkfdocdmboaaDoor
