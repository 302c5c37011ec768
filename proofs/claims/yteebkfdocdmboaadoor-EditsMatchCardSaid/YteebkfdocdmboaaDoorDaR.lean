/- What stands in a frame of a film: dyeref1.conv, div and At. (printed by gen_daw.py) -/
import Derived.Test.YteebkfdocdmboaaDoorDaW
import Derived.Deep.RegionHeld3
namespace Go.Proofs.YteebkfdocdmboaaDoor
open Go.RowKit

theorem ref_conv (n : Int) (w : World) : Calls Tryd.prog 27 #[.int .i64 n] w fun e w' => e = .returned (.float .f32 (floatOfInt .f32 n)) ∧ w = w' := by
  go_enter Tryd.func27, Tryd.ntmps27
  go_wp2_with fail
  go_ret
  exact ⟨rfl, rfl⟩
theorem ref_div (a b r1 r2 r3 R : Nat) (w : World) (h1 : floatToFloatBits .f32 a .f64 = some r1) (h2 : floatToFloatBits .f32 b .f64 = some r2) (h3 : floatBits .quo .f64 r1 r2 = some r3) (h4 : floatToFloatBits .f64 r3 .f32 = some R) :
    Calls Tryd.prog 26 #[.float .f32 a, .float .f32 b] w fun e w' => e = .returned (.float .f32 R) ∧ w = w' := by
  have c1 := fun w => run_convert_float_float (P := Tryd.prog) w 28 70 .f32 .f64 a r1 (by kernel_rfl) Tryd.underlying70 h1
  have c2 := fun w => run_convert_float_float (P := Tryd.prog) w 28 70 .f32 .f64 b r2 (by kernel_rfl) Tryd.underlying70 h2
  have c3 := fun w => run_convert_float_float (P := Tryd.prog) w 70 28 .f64 .f32 r3 R (by kernel_rfl) Tryd.underlying28 h4
  have q1 : ∀ w, fres .quo .f64 r1 r2 w = r3 := fun w => by unfold fres; rw [h3]
  have q2 : fdr .quo .f64 r1 r2 = 0 := by unfold fdr; rw [h3]; rfl
  clear h1 h2 h3 h4
  go_enter Tryd.func26, Tryd.ntmps26
  go_wp2_with fail
  go_ret
  exact ⟨rfl, rfl⟩
set_option maxRecDepth 100000 in
set_option maxHeartbeats 8000000 in
theorem ref_At (title : ByteArray) (rate : Int) (v : Value) (es : List Ev) (f : Int) (W : World) (hs : SlE W v es) (hok : evsTo es es.length = 0) (hf0 : 0 ≤ f) :
    Calls Tryd.prog 9 #[.agg #[.string title, .int .i64 rate, v], .int .i64 f] W fun e w' => e = .returned (atR es f) ∧ Below W.heap.size W w' := by
  obtain ⟨a, c, rfl, hmax, hform⟩ := hs
  unfold maxLen at hmax
  obtain ⟨n, hn⟩ : ∃ n, n = es.length := ⟨_, rfl⟩
  have hzero := evsTo_zero es es.length hok
  rw [← hn] at hmax hzero ⊢
  have Hzero := Lib.hid hzero
  have hone := fun k (hk : k < n) => atR_one (es := es) (f := f) (k := k) (by rw [← hn]; exact hk)
  have htwo := fun k (hk : k < n) => atR_two (es := es) (f := f) (k := k) (by rw [← hn]; exact hk)
  have hnon := atR_none (es := es) (f := f)
  rw [← hn] at hnon
  have Hone := Lib.hid hone
  have Htwo := Lib.hid htwo
  have Hnon := Lib.hid hnon
  have Hn := Lib.hid hn
  generalize hres : atR es f = res at *
  clear hres hn hok hzero hone htwo hnon
  go_enter Tryd.func9, Tryd.ntmps9
  go_upto_region 1 with fail
  refine name_world ?_
  intro w0 hw0
  have x1 : Bx w0 W.heap.size 24 #[.string title, .int .i64 rate, .slice a n c] := by rw [hw0]; exact (Bx.new _ _ _).alloc _
  have x2 : Bx w0 (W.heap.size + 1) 30 #[.int .i64 0, .string ⟨#[]⟩, .int .i64 0, .string ⟨#[]⟩, .int .i64 0, .float .f32 0] := by rw [hw0]; exact Bx.at _ (by simp)
  have B : Below W.heap.size W w0 := by rw [hw0]; exact bnew (bnew (Below.refl _ W))
  clear hw0
  obtain ⟨q1, f1, l1⟩ := x1.all
  have ef0 : decide (f < 0) = false := decide_eq_false (by omega)
  go_wp2_with fail
  go_loopw [17] (fun i wr => ∃ k : Nat, k ≤ n ∧ i = .int .i64 (k : Int) ∧ Hid (∀ j, j < k → hit es f j = false) ∧ Below W.heap.size W wr ∧ Bx wr W.heap.size 24 #[.string title, .int .i64 rate, .slice a n c] ∧ Bx wr (W.heap.size + 1) 30 #[.int .i64 0, .string ⟨#[]⟩, .int .i64 0, .string ⟨#[]⟩, .int .i64 0, .float .f32 0]) (fun i _ => n - (intOf i).toNat)
  case atStart => exact ⟨0, by omega, rfl, Lib.hid (fun j hj => by omega), B, x1, x2⟩
  case round =>
    clear x1 x2 B q1 f1 l1
    obtain ⟨k, hk, rfl, hl, hb, x1, x2⟩ := hrel
    by_cases hlt : k < n
    · rcases hform with h0 | ⟨b, o, rfl, hbl, hat⟩
      · exfalso
        have := Hn.out
        rw [h0] at this
        simp at this
        omega
      obtain ⟨c0, c1, c2, c3, c4, c5⟩ := (hat k (by rw [← Hn.out]; exact hlt)).keep hb hbl
      have hz := Hzero.out k hlt
      obtain ⟨-, -, b1, b2, b3, b4, b5, -⟩ := evErr_zero hz
      have hz2 := evErr_zero2 hz
      have hr1 := Hone.out k hlt hl.out
      have hr2 := Htwo.out k hlt hl.out
      have hno : (f < (es.getD k default).pos ∨ (es.getD k default).pos + (es.getD k default).out - (es.getD k default).inn ≤ f) → ∀ j, j < k + 1 → hit es f j = false := fun h j hj => by
        by_cases hjk : j < k
        · exact hl.out j hjk
        · obtain rfl : j = k := by omega
          exact hit_no h
      have Hat := Lib.hid hat
      unfold Ev.stop at hr1 hr2
      clear hat hz
      generalize (es.getD k default).reel = reel at c0 hr1 hr2
      generalize (es.getD k default).kind = kind at c1 hz2
      generalize (es.getD k default).len = len at c2 hr1 hr2 hz2
      generalize (es.getD k default).inn = inn at c3 hr1 hr2 hz2 b1 b2 hno
      generalize (es.getD k default).out = out at c4 hr1 hr2 hz2 b2 b3 hno
      generalize (es.getD k default).pos = pos at c5 hr1 hr2 b4 b5 hno
      have Hr1 := Lib.hid hr1
      have Hr2 := Lib.hid hr2
      have Hz2 := Lib.hid hz2
      have Hno := Lib.hid hno
      clear hr1 hr2 hz2 hno
      have hki : (k : Int) < (n : Int) := by omega
      have l27 := x2.lt
      go_upto_region 6 with fail
      refine name_world ?_
      intro w3 hw3
      have x7 : Bx w3 wr.heap.size 48 #[.string reel, .int .i64 kind, .int .i64 len, .int .i64 inn, .int .i64 out, .int .i64 pos] := by rw [hw3]; exact Bx.new _ _ _
      have hb9 : Below wr.heap.size wr w3 := by rw [hw3]; exact bnew (Below.refl _ wr)
      clear hw3 c0 c1 c2 c3 c4 c5
      replace x1 := x1.keep hb9
      replace x2 := x2.keep hb9
      replace hb := bcall hb hb9
      clear hb9
      generalize hp7 : wr.heap.size = p7 at *
      clear hp7
      obtain ⟨q7, f7, l7⟩ := x7.all
      by_cases h1 : f < pos
      · have eA : decide (f < pos) = true := decide_eq_true h1
        go_wp2_with fail
        go_roundw
        case rel => exact ⟨k + 1, by omega, by go_num, Lib.hid (Hno.out (.inl h1)), hb, x1, x2⟩
        case measure => simp [intOf]; omega
      have eA : decide (f < pos) = false := decide_eq_false h1
      go_wp2_with fail
      refine (ref_end reel kind len inn out pos _ b1 b2 b3 b4 b5).mono ?_
      rintro e wy ⟨rfl, hE⟩
      clear q7 f7 l7
      replace x1 := x1.keep hE
      replace x2 := x2.keep hE
      replace x7 := x7.keep hE
      replace hb := bcall hb hE
      clear hE
      obtain ⟨q7, f7, l7⟩ := x7.all
      obtain ⟨q1, f1, l1⟩ := x1.all
      obtain ⟨q2, f2, l2⟩ := x2.all
      by_cases h2 : f < pos + out - inn
      · have eB : decide (pos + out - inn ≤ f) = false := decide_eq_false (by omega)
        clear Hno
        go_upto_region 9 with fail
        refine name_world ?_
        intro w5 hw5
        have x8 : Bx w5 wy.heap.size 30 #[.int .i64 (k : Int), .string reel, .int .i64 (inn + f - pos), .string ⟨#[]⟩, .int .i64 0, .float .f32 1065353216] := by rw [hw5]; exact Bx.new _ _ _
        have hb9 : Below wy.heap.size wy w5 := by rw [hw5]; exact bnew (Below.refl _ _)
        have lp7 : p7 < wy.heap.size := x7.lt
        clear hw5 q7 f7 l7 q1 f1 l1 q2 f2 l2
        replace x1 := x1.keep hb9
        replace x2 := x2.keep hb9
        replace x7 := x7.keep hb9
        replace hb := bcall hb hb9
        clear hb9
        generalize hp8 : wy.heap.size = p8 at *
        clear hp8
        obtain ⟨q1, f1, l1⟩ := x1.all
        obtain ⟨q2, f2, l2⟩ := x2.all
        obtain ⟨q7, f7, l7⟩ := x7.all
        obtain ⟨q8, f8, l8⟩ := x8.all
        rcases Hz2.out with ⟨rfl, rfl⟩ | ⟨rfl, z1, z2, z3, z4⟩
        · have e3 : decide (f - pos < 0) = false := decide_eq_false (by omega)
          go_wp2_with fail
          exact bodyPost_ret (v := .tuple #[.agg #[.int .i64 (k : Int), .string reel, .int .i64 (inn + f - pos), .string ⟨#[]⟩, .int .i64 0, .float .f32 1065353216], .int .i64 0]) (by simp [results, Tryd.results9, go_sem, q2]) rfl ⟨by rw [Hr1.out (by omega) (by omega) (by omega)], bput (by omega) (bput (by omega) (bput (by omega) (bput (by omega) (bput (by omega) (bput (by omega) hb)))))⟩
        by_cases h3 : f - pos < len
        · have e3 : decide (f - pos < len) = true := decide_eq_true h3
          obtain ⟨k1, hk1⟩ : ∃ k1, k = k1 + 1 := ⟨k - 1, by omega⟩
          obtain ⟨p0, p1, p2, p3, p4, p5⟩ := (Hat.out k1 (by rw [← Hn.out]; omega)).keep hb hbl
          obtain ⟨-, -, d1, d2, d3, d4, d5, -⟩ := evErr_zero (Hzero.out k1 (by omega))
          have hr := Hr2.out (by omega) (by omega) h3
          rw [show k - 1 = k1 by omega] at hr
          generalize (es.getD k1 default).reel = reel2 at p0 hr
          generalize (es.getD k1 default).kind = kind2 at p1
          generalize (es.getD k1 default).len = len2 at p2
          generalize (es.getD k1 default).inn = inn2 at p3 d1 d2 hr
          generalize (es.getD k1 default).out = out2 at p4 d2 d3
          generalize (es.getD k1 default).pos = pos2 at p5 d4 d5 hr
          have Hr := Lib.hid hr
          have hki1 : (k : Int) - 1 = (k1 : Int) := by omega
          have hkn1 : (k1 : Int) < (n : Int) := by omega
          have Hk1 := Lib.hid hk1
          clear hr hk1
          go_upto_region 11 with fail
          refine name_world ?_
          intro w6 hw6
          have x10 : Bx w6 w5.heap.size 48 #[.string reel2, .int .i64 kind2, .int .i64 len2, .int .i64 inn2, .int .i64 out2, .int .i64 pos2] := by rw [hw6]; exact Bx.new _ _ _
          have hb9 : Below w5.heap.size w5 w6 := by rw [hw6]; exact bnew (Below.refl _ _)
          have lp8 : p8 < w5.heap.size := x8.lt
          clear hw6 q7 f7 l7 q1 f1 l1 q2 f2 l2 q8 f8 l8 p0 p1 p2 p3 p4 p5 hki1 hkn1
          replace x1 := x1.keep hb9
          replace x2 := x2.keep hb9
          replace x7 := x7.keep hb9
          replace x8 := x8.keep hb9
          replace hb := bcall hb hb9
          clear hb9
          generalize hp10 : w5.heap.size = p10 at *
          clear hp10
          have hdiv : ∀ w, Calls Tryd.prog 26 #[.float .f32 (floatOfInt .f32 (f - pos + 1)), .float .f32 (floatOfInt .f32 (len + 1))] w fun e w' => e = .returned (.float .f32 (shareB (f - pos) len)) ∧ w = w' := fun w => by
            obtain ⟨⟨fa, hfa⟩, ⟨la, hla⟩⟩ : (∃ fa : Nat, f - pos + 1 = (fa : Int)) ∧ ∃ la : Nat, len + 1 = (la : Int) := ⟨⟨(f - pos + 1).toNat, by omega⟩, ⟨(len + 1).toNat, by omega⟩⟩
            unfold shareB
            rw [hfa, hla]
            obtain ⟨⟨r1, r2, r3, h1, h2, h3, h4⟩, _⟩ := share_dbl (a := fa) (b := la) (by omega) (by omega) (by omega) (by omega)
            exact ref_div _ _ r1 r2 r3 _ w h1 h2 h3 h4
          have Hdiv := Lib.hid hdiv
          clear hdiv
          have g0 : w6.cell? ⟨p10, 0, none⟩ = some (.string reel2) := x10.all.1 0
          have g3 : w6.cell? ⟨p10, 3, none⟩ = some (.int .i64 inn2) := x10.all.1 3
          have g5 : w6.cell? ⟨p10, 5, none⟩ = some (.int .i64 pos2) := x10.all.1 5
          have g7 : w6.cell? ⟨p7, 2, none⟩ = some (.int .i64 len) := x7.all.1 2
          have hs1 : IntKind.i64.wrap (inn2 + f) = inn2 + f := IntWalk.i64_in _ (by omega)
          have hs2 : IntKind.i64.wrap (inn2 + f - pos2) = inn2 + f - pos2 := IntWalk.i64_in _ (by omega)
          have hs3 : IntKind.i64.wrap (f - pos + 1) = f - pos + 1 := IntWalk.i64_in _ (by omega)
          have hs4 : IntKind.i64.wrap (len + 1) = len + 1 := IntWalk.i64_in _ (by omega)
          have hn1 : p10 ≠ p8 := by omega
          have hn2 : p7 ≠ p8 := by omega
          have hn3 : p8 ≠ p10 := by omega
          have hn4 : p8 ≠ p7 := by omega
          obtain ⟨q8, f8, l8⟩ := x8.all
          go_region_held3 (fun w' => w'.cell? ⟨p10, 0, none⟩ = some (.string reel2) ∧ w'.cell? ⟨p10, 3, none⟩ = some (.int .i64 inn2) ∧ w'.cell? ⟨p10, 5, none⟩ = some (.int .i64 pos2) ∧ w'.cell? ⟨p7, 2, none⟩ = some (.int .i64 len)) (go_keep) (first
            | (go_at_call 27; refine (ref_conv _ _).mono ?_; rintro e w' ⟨rfl, rfl⟩)
            | (go_at_call 26; refine (Hdiv.out _).mono ?_; rintro e w' ⟨rfl, rfl⟩))
          all_goals
            go_upto_region 12 with fail
            refine name_world ?_
            intro w8 hw8
            have on : Only p8 w6 w8 := by rw [hw8]; exact only_drew ((((Only.refl p8 w6).set _ _).set _ _).set _ _)
            have y8 : Bx w8 p8 30 #[.int .i64 (k : Int), .string reel, .int .i64 (inn + f - pos), .string reel2, .int .i64 (inn2 + f - pos2), .float .f32 (shareB (f - pos) len)] := by rw [hw8]; exact ((x8.set 3 _).set 4 _).set 5 _
            clear hw8 x8 q8 f8 l8 g0 g3 g5 g7 hs1 hs2 hs3 hs4
            replace x2 := on.bx (by omega) x2
            replace hb := bonly hb on (by omega)
            clear on
            obtain ⟨q2, f2, l2⟩ := x2.all
            obtain ⟨q8, f8, l8⟩ := y8.all
            go_wp2_with fail
            exact bodyPost_ret (v := .tuple #[.agg #[.int .i64 (k : Int), .string reel, .int .i64 (inn + f - pos), .string reel2, .int .i64 (inn2 + f - pos2), .float .f32 (shareB (f - pos) len)], .int .i64 0]) (by simp [results, Tryd.results9, go_sem, q2]) rfl ⟨by rw [Hr.out], bput (by omega) (bput (by omega) (bput (by omega) (bput (by omega) (bput (by omega) (bput (by omega) hb)))))⟩
        · have e3 : decide (f - pos < len) = false := decide_eq_false h3
          go_wp2_with fail
          exact bodyPost_ret (v := .tuple #[.agg #[.int .i64 (k : Int), .string reel, .int .i64 (inn + f - pos), .string ⟨#[]⟩, .int .i64 0, .float .f32 1065353216], .int .i64 0]) (by simp [results, Tryd.results9, go_sem, q2]) rfl ⟨by rw [Hr1.out (by omega) (by omega) (by omega)], bput (by omega) (bput (by omega) (bput (by omega) (bput (by omega) (bput (by omega) (bput (by omega) hb)))))⟩
      · have h2 : pos + out - inn ≤ f := by omega
        have eB : decide (pos + out - inn ≤ f) = true := decide_eq_true h2
        go_wp2_with fail
        go_roundw
        case rel => exact ⟨k + 1, by omega, by go_num, Lib.hid (Hno.out (.inr h2)), hb, x1, x2⟩
        case measure => simp [intOf]; omega
    · have hkn : k = n := by omega
      subst hkn
      have hr := Hnon.out hl.out
      have Hr := Lib.hid hr
      clear hr
      obtain ⟨q1, f1, l1⟩ := x1.all
      obtain ⟨q2, f2, l2⟩ := x2.all
      go_wp2_with fail
      exact bodyPost_ret (v := .tuple #[.agg #[.int .i64 0, .string ⟨#[]⟩, .int .i64 0, .string ⟨#[]⟩, .int .i64 0, .float .f32 0], .int .i64 11]) (by simp [results, Tryd.results9, go_sem, q2]) rfl ⟨by rw [Hr.out], bput (by omega) (bput (by omega) (bput (by omega) (bput (by omega) (bput (by omega) (bput (by omega) hb)))))⟩
end Go.Proofs.YteebkfdocdmboaaDoor
