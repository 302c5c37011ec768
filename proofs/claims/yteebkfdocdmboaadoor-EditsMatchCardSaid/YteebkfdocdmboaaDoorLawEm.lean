/- EditsMatch, walked: for any edit list, any frame and any handle the law returns true. -/
import Derived.Test.YteebkfdocdmboaaDoorEmI
namespace Go.Proofs.YteebkfdocdmboaaDoor
open Go.RowKit

set_option maxRecDepth 100000 in
set_option maxHeartbeats 8000000 in
theorem law_Edits_a (ta : ByteArray) (ra : Int) (va : Value) (ea : List Ev) (f h : Int) (W : World) (ha : SlE W va ea) (oka : editsErr ta ra ea ≠ 0) :
    Calls Tryd.prog 3 #[.agg #[.string ta, .int .i64 ra, va], .int .i64 f, .int .i64 h] W fun e w' => e = .returned (.bool true) ∧ Below W.heap.size W w' := by
  have hne : ((editsErr ta ra ea) != 0) = true := by simpa using oka
  have KE : Hid (∀ w, SlE w va ea → Calls Tryd.prog 5 #[.agg #[.string ta, .int .i64 ra, va]] w fun e w' => e = .returned (.int .i64 (editsErr ta ra ea)) ∧ Below w.heap.size w w') := Lib.hid fun w h => ref_EditsError ta ra va ea w h
  have KC : Hid (∀ w, SlE w va ea → Calls Tryd.prog 8 #[.agg #[.string ta, .int .i64 ra, va]] w fun e w' => e = .returned (.int .i64 (editsErr ta ra ea)) ∧ Below w.heap.size w w') := Lib.hid fun w h => conform_CheckList ta ra va ea w h
  have KA : Hid (∀ w, SlE w va ea → Calls Tryd.prog 6 #[.agg #[.string ta, .int .i64 ra, va], .int .i64 f] w fun e w' => e = .returned (.tuple #[.agg #[.int .i64 0, .string ⟨#[]⟩, .int .i64 0, .string ⟨#[]⟩, .int .i64 0, .float .f32 0], .int .i64 (editsErr ta ra ea)]) ∧ Below w.heap.size w w') := Lib.hid fun w hs => by
    have z := conform_At ta ra va ea f w hs
    unfold atP at z
    rw [if_pos oka] at z
    exact z
  have KS : Hid (∀ w, SlE w va ea → Calls Tryd.prog 7 #[.agg #[.string ta, .int .i64 ra, va], .int .i64 h] w fun e w' => e = .returned (.tuple #[.slice none 0 0, .int .i64 (editsErr ta ra ea)]) ∧ Below w.heap.size w w') := Lib.hid fun w hs => by
    have z := conform_Sources_bad ta ra va ea h w hs fun h => absurd h oka
    rw [if_neg oka] at z
    exact z
  have hz : ∀ w, (Op.equalIn 10000 30 (.agg #[.int .i64 0, .string ⟨#[]⟩, .int .i64 0, .string ⟨#[]⟩, .int .i64 0, .float .f32 0]) (.agg #[.int .i64 0, .string ⟨#[]⟩, .int .i64 0, .string ⟨#[]⟩, .int .i64 0, .float .f32 0])).run Tryd.prog w = .ok true w := by
    intro w
    rw [run_eq_shot, word_self (show rd 0 = .number false 0 (-149) by decide)]
    simp
  generalize editsErr ta ra ea = er at *
  clear oka
  have HA := Lib.hid ha
  obtain ⟨aa, ca, rfl, _, _⟩ := ha
  generalize hna : ea.length = na at *
  clear hna
  go_enter Tryd.func3, Tryd.ntmps3
  go_upto_region 3 with (go_at_call 4; refine (law_landed _).mono ?_; rintro e w' ⟨rfl, rfl⟩)
  refine name_world ?_
  intro w0 hw0
  have x3 : Bx w0 W.heap.size 24 #[.string ta, .int .i64 ra, .slice aa na ca] := by rw [hw0]; exact Bx.new _ _ _
  have B : Below W.heap.size W w0 := by rw [hw0]; exact bnew (Below.refl _ W)
  clear hw0
  obtain ⟨q3, f3, l3⟩ := x3.all
  go_wp2_with fail
  refine (KE.out _ (HA.out.keep B)).mono ?_
  rintro e w1 ⟨rfl, hb⟩
  clear q3 f3 l3
  replace x3 := x3.keep hb
  replace B := bcall B hb
  clear hb
  obtain ⟨q3, f3, l3⟩ := x3.all
  go_wp2_with fail
  refine (KA.out _ (HA.out.keep B)).mono ?_
  rintro e w2 ⟨rfl, hb⟩
  clear q3 f3 l3
  replace x3 := x3.keep hb
  replace B := bcall B hb
  clear hb
  obtain ⟨q3, f3, l3⟩ := x3.all
  go_wp2_with fail
  refine nm_call ?_
  intro w3 hw3
  have x8 : Bx w3 w2.heap.size 30 #[.int .i64 0, .string ⟨#[]⟩, .int .i64 0, .string ⟨#[]⟩, .int .i64 0, .float .f32 0] := by rw [hw3]; exact Bx.new _ _ _
  have hb := below_eq hw3
  clear hw3
  clear q3 f3 l3
  replace x3 := x3.keep hb
  replace B := bcall B hb
  clear hb
  refine (KS.out _ (HA.out.keep B)).mono ?_
  rintro e w4 ⟨rfl, hb⟩
  replace x3 := x3.keep hb
  replace x8 := x8.keep hb
  replace B := bcall B hb
  clear hb
  generalize w2.heap.size = p8 at *
  obtain ⟨q3, f3, l3⟩ := x3.all
  go_wp2_with fail
  refine nm_call ?_
  intro w5 hw5
  have x10 : Bx w5 w4.heap.size 33 #[.slice none 0 0] := by rw [hw5]; exact Bx.new _ _ _
  have hb := below_eq hw5
  clear hw5
  clear q3 f3 l3
  replace x3 := x3.keep hb
  replace x8 := x8.keep hb
  replace B := bcall B hb
  clear hb
  refine (KC.out _ (HA.out.keep B)).mono ?_
  rintro e w6 ⟨rfl, hb⟩
  replace x3 := x3.keep hb
  replace x8 := x8.keep hb
  replace x10 := x10.keep hb
  replace B := bcall B hb
  clear hb
  generalize w4.heap.size = p10 at *
  obtain ⟨q8, f8, l8⟩ := x8.all
  obtain ⟨q10, f10, l10⟩ := x10.all
  go_wp2_with fail
  go_ret
  exact ⟨rfl, B⟩

set_option maxRecDepth 100000 in
set_option maxHeartbeats 16000000 in
theorem law_Edits_b (ta : ByteArray) (ra : Int) (va : Value) (ea : List Ev) (f h : Int) (W : World) (ha : SlE W va ea) (oka : editsErr ta ra ea = 0) :
    Calls Tryd.prog 3 #[.agg #[.string ta, .int .i64 ra, va], .int .i64 f, .int .i64 h] W fun e w' => e = .returned (.bool true) ∧ Below W.heap.size W w' := by
  have KE : Hid (∀ w, SlE w va ea → Calls Tryd.prog 5 #[.agg #[.string ta, .int .i64 ra, va]] w fun e w' => e = .returned (.int .i64 0) ∧ Below w.heap.size w w') := Lib.hid fun w h => by rw [← oka]; exact ref_EditsError ta ra va ea w h
  have KC : Hid (∀ w, SlE w va ea → Calls Tryd.prog 8 #[.agg #[.string ta, .int .i64 ra, va]] w fun e w' => e = .returned (.int .i64 0) ∧ Below w.heap.size w w') := Lib.hid fun w h => by rw [← oka]; exact conform_CheckList ta ra va ea w h
  have KS : Hid (∀ w, SlE w va ea → Calls Tryd.prog 7 #[.agg #[.string ta, .int .i64 ra, va], .int .i64 h] w fun e w' => ∃ sv L, e = .returned (.tuple #[sv, .int .i64 (srcE h)]) ∧ SrcIs ea h L ∧ SlQ w' sv L ∧ Below w.heap.size w w') := Lib.hid fun w hs => (both_Sources ta ra va ea h w hs oka).1
  have KT : Hid (∀ w, SlE w va ea → Calls Tryd.prog 10 #[.agg #[.string ta, .int .i64 ra, va], .int .i64 h] w fun e w' => ∃ sv L, e = .returned (.tuple #[sv, .int .i64 (srcE h)]) ∧ SrcIs ea h L ∧ SlQ w' sv L ∧ Below w.heap.size w w') := Lib.hid fun w hs => (both_Sources ta ra va ea h w hs oka).2
  obtain ⟨ev, r, x, s, g, q, er, ka, kb, heq, hlaw⟩ := both_At ta ra va ea f h oka
  have KA := Lib.hid ka
  have KB := Lib.hid kb
  have KL := Lib.hid hlaw
  have hlen := (editsErr_zero oka).2
  have Hlen := Lib.hid (fun (L : List Pl) (h1 : SrcIs ea h L) => SrcIs.len h1 hlen)
  have Hsame := Lib.hid (fun (L K : List Pl) (h1 : SrcIs ea h L) (h2 : SrcIs ea h K) => SrcIs.same h1 h2)
  clear ka kb hlaw hlen oka
  have HA := Lib.hid ha
  obtain ⟨aa, ca, rfl, _, _⟩ := ha
  generalize hna : ea.length = na at *
  clear hna
  generalize hse : srcE h = se at *
  clear hse
  go_enter Tryd.func3, Tryd.ntmps3
  go_upto_region 3 with (go_at_call 4; refine (law_landed _).mono ?_; rintro e w' ⟨rfl, rfl⟩)
  refine name_world ?_
  intro w0 hw0
  have x3 : Bx w0 W.heap.size 24 #[.string ta, .int .i64 ra, .slice aa na ca] := by rw [hw0]; exact Bx.new _ _ _
  have B : Below W.heap.size W w0 := by rw [hw0]; exact bnew (Below.refl _ W)
  clear hw0
  obtain ⟨q3, f3, l3⟩ := x3.all
  go_wp2_with fail
  refine (KE.out _ (HA.out.keep B)).mono ?_
  rintro e w1 ⟨rfl, hb⟩
  clear q3 f3 l3
  replace x3 := x3.keep hb
  replace B := bcall B hb
  clear hb
  obtain ⟨q3, f3, l3⟩ := x3.all
  go_wp2_with fail
  refine (KA.out _ (HA.out.keep B)).mono ?_
  rintro e w2 ⟨rfl, hb⟩
  clear q3 f3 l3
  replace x3 := x3.keep hb
  replace B := bcall B hb
  clear hb
  obtain ⟨q3, f3, l3⟩ := x3.all
  go_wp2_with fail
  refine nm_call ?_
  intro w3 hw3
  have x8 : Bx w3 w2.heap.size 30 #[.int .i64 ev, .string r, .int .i64 x, .string s, .int .i64 g, .float .f32 q] := by rw [hw3]; exact Bx.new _ _ _
  have hb := below_eq hw3
  clear hw3
  clear q3 f3 l3
  replace x3 := x3.keep hb
  replace B := bcall B hb
  clear hb
  refine (KS.out _ (HA.out.keep B)).mono ?_
  rintro e w4 ⟨sv, L, rfl, hL, sl, hb⟩
  replace x3 := x3.keep hb
  replace x8 := x8.keep hb
  replace B := bcall B hb
  clear hb
  generalize w2.heap.size = p8 at *
  have HL := Lib.hid hL
  clear hL
  have hmax := Hlen.out L HL.out
  have SL := Lib.hid sl
  obtain ⟨a1, c1, rfl, _⟩ := sl
  generalize hN : L.length = N at *
  have HN := Lib.hid hN
  clear hN
  obtain ⟨q3, f3, l3⟩ := x3.all
  go_wp2_with fail
  refine nm_call ?_
  intro w5 hw5
  have x10 : Bx w5 w4.heap.size 33 #[.slice a1 N c1] := by rw [hw5]; exact Bx.new _ _ _
  have hb := below_eq hw5
  clear hw5
  clear q3 f3 l3
  replace x3 := x3.keep hb
  replace x8 := x8.keep hb
  replace SL := Lib.hid (SL.out.keep hb)
  replace B := bcall B hb
  clear hb
  refine (KC.out _ (HA.out.keep B)).mono ?_
  rintro e w6 ⟨rfl, hb⟩
  replace x3 := x3.keep hb
  replace x8 := x8.keep hb
  replace x10 := x10.keep hb
  replace SL := Lib.hid (SL.out.keep hb)
  replace B := bcall B hb
  clear hb
  generalize w4.heap.size = p10 at *
  obtain ⟨q3, f3, l3⟩ := x3.all
  go_wp2_with fail
  refine (KB.out _ (HA.out.keep B)).mono ?_
  rintro e w7 ⟨rfl, hb⟩
  clear q3 f3 l3
  replace x3 := x3.keep hb
  replace x8 := x8.keep hb
  replace x10 := x10.keep hb
  replace SL := Lib.hid (SL.out.keep hb)
  replace B := bcall B hb
  clear hb
  obtain ⟨q3, f3, l3⟩ := x3.all
  go_wp2_with fail
  refine nm_call ?_
  intro w8 hw8
  have x12 : Bx w8 w7.heap.size 30 #[.int .i64 ev, .string r, .int .i64 x, .string s, .int .i64 g, .float .f32 q] := by rw [hw8]; exact Bx.new _ _ _
  have hb := below_eq hw8
  clear hw8
  clear q3 f3 l3
  replace x3 := x3.keep hb
  replace x8 := x8.keep hb
  replace x10 := x10.keep hb
  replace SL := Lib.hid (SL.out.keep hb)
  replace B := bcall B hb
  clear hb
  refine (KT.out _ (HA.out.keep B)).mono ?_
  rintro e w9 ⟨sv2, L2, rfl, hL2, sl2, hb⟩
  obtain rfl := Hsame.out _ _ HL.out hL2
  replace x8 := x8.keep hb
  replace x10 := x10.keep hb
  replace x12 := x12.keep hb
  replace SL := Lib.hid (SL.out.keep hb)
  replace B := bcall B hb
  clear hb x3 hL2
  generalize w7.heap.size = p12 at *
  have SL2 := Lib.hid sl2
  obtain ⟨a2, c2, rfl, _⟩ := sl2
  rw [HN.out] at SL2 ⊢
  obtain ⟨q8, f8, l8⟩ := x8.all
  obtain ⟨q10, f10, l10⟩ := x10.all
  obtain ⟨q12, f12, l12⟩ := x12.all
  go_wp2_with fail
  refine (slices_EqualPl _ SL.out SL2.out (by rw [HN.out]; exact hmax)).mono ?_
  rintro e w10 ⟨rfl, hb⟩
  clear q8 f8 l8 q10 f10 l10 q12 f12 l12 SL2 x12
  replace x8 := x8.keep hb
  replace x10 := x10.keep hb
  replace SL := Lib.hid (SL.out.keep hb)
  replace B := bcall B hb
  clear hb
  by_cases he : er = 0
  rotate_left
  · have he2 : (er != 0) = true := by simpa using he
    go_wp2_with fail
    go_ret
    exact ⟨rfl, B⟩
  subst he
  by_cases hs : se = 0
  rotate_left
  · have hs2 : (se != 0) = true := by simpa using hs
    go_wp2_with fail
    go_ret
    exact ⟨rfl, B⟩
  subst hs
  obtain ⟨hh, g1, g2, g3⟩ := KL.out rfl rfl
  obtain ⟨hh1, hh2⟩ := hh L HL.out
  clear hh KL
  have g4 : (FloatKind.f32.format.order q 1065353216 == some .lt || FloatKind.f32.format.order q 1065353216 == some .eq) = true := by
    cases ho : FloatKind.f32.format.order q 1065353216 with
    | none => rw [ho] at g3; cases g3
    | some o =>
      rw [ho] at g2
      cases o
      · rfl
      · rfl
      · cases g2
  clear g2 g3
  have H2 := Lib.hid hh2
  clear hh2
  have KH := Lib.hid (fun (w : World) (r0 : ByteArray) (f0 : Int) (h1 : SlQ w (.slice a1 N c1) L) (h2 : Bx w p10 33 #[.slice a1 N c1]) => law_has r0 f0 w h1 h2 (by rw [HN.out]; exact hmax))
  obtain ⟨q8, f8, l8⟩ := x8.all
  go_wp2_with fail
  refine (KH.out _ _ _ SL.out x10).mono ?_
  rintro e w11 ⟨rfl, hb⟩
  rw [hh1]
  clear q8 f8 l8
  replace x8 := x8.keep hb
  replace x10 := x10.keep hb
  replace SL := Lib.hid (SL.out.keep hb)
  replace B := bcall B hb
  clear hb
  obtain ⟨q8, f8, l8⟩ := x8.all
  by_cases hs0 : s = ⟨#[]⟩
  · subst hs0
    go_wp2_with fail
    go_ret
    exact ⟨rfl, B⟩
  · have hs1 : s.toList.isEmpty = false := by
      have h1 := toList_ne' hs0
      rw [show ByteArray.toList ⟨#[]⟩ = [] by rw [Lib.toList_data]] at h1
      cases hx : s.toList with
      | nil => exact absurd hx h1
      | cons _ _ => rfl
    rcases H2.out with h2 | h2
    · exact absurd h2 hs0
    go_wp2_with fail
    refine (KH.out _ _ _ SL.out x10).mono ?_
    rintro e w12 ⟨rfl, hb⟩
    rw [h2]
    clear q8 f8 l8
    replace x8 := x8.keep hb
    replace B := bcall B hb
    clear hb
    obtain ⟨q8, f8, l8⟩ := x8.all
    go_wp2_with fail
    go_ret
    exact ⟨rfl, B⟩

theorem law_Edits (ta : ByteArray) (ra : Int) (va : Value) (ea : List Ev) (f h : Int) (W : World) (ha : SlE W va ea) :
    Calls Tryd.prog 3 #[.agg #[.string ta, .int .i64 ra, va], .int .i64 f, .int .i64 h] W fun e w' => e = .returned (.bool true) ∧ Below W.heap.size W w' := by
  by_cases oka : editsErr ta ra ea = 0
  · exact law_Edits_b ta ra va ea f h W ha oka
  · exact law_Edits_a ta ra va ea f h W ha oka
end Go.Proofs.YteebkfdocdmboaaDoor
