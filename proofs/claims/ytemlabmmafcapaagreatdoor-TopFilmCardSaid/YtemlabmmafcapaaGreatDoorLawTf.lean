/- TopFilm, walked: for any edit list, any event, any numbers the law returns true. (printed) -/
import Derived.Test.YtemlabmmafcapaaGreatDoorTfG
namespace Go.Proofs.YtemlabmmafcapaaGreatDoor
open Go.RowKit

set_option maxRecDepth 100000 in
set_option maxHeartbeats 8000000 in
theorem law_Film_a (t : ByteArray) (r : Int) (v : Value) (es : List Ev) (event by_ at_ : Int) (W : World) (hs : SlE W v es) (her : editsErr t r es ≠ 0) :
    Calls Tryz.prog 3 #[.agg #[.string t, .int .i64 r, v], .int .i64 event, .int .i64 by_, .int .i64 at_] W fun e w' => e = .returned (.bool true) ∧ Below W.heap.size W w' := by
  have KP := Lib.hid (fun w (h : SlE w v es) => conform_PrintList_err t r v es w h her)
  have hne : (editsErr t r es != 0) = true := by simpa using her
  generalize editsErr t r es = er at *
  clear her
  have HA := Lib.hid hs
  obtain ⟨aa, ca, rfl, _, _⟩ := hs
  generalize hna : es.length = na at *
  clear hna
  go_enter Tryz.func3, Tryz.ntmps3
  go_upto_region 3 with (go_at_call 4; refine (film_landed _).mono ?_; rintro e w' ⟨rfl, rfl⟩)
  refine name_world ?_
  intro w0 hw0
  have x4 : Bx w0 W.heap.size 24 #[.string t, .int .i64 r, .slice aa na ca] := by rw [hw0]; exact Bx.new _ _ _
  have B : Below W.heap.size W w0 := by rw [hw0]; exact bnew (Below.refl _ W)
  clear hw0
  obtain ⟨q4, f4, l4⟩ := x4.all
  go_wp2_with fail
  refine (KP.out _ (HA.out.keep B)).mono ?_
  rintro e w1 ⟨rfl, hb⟩
  replace B := bcall B hb
  go_wp2_with fail
  go_ret
  exact ⟨rfl, B⟩

set_option maxRecDepth 100000 in
set_option maxHeartbeats 16000000 in
theorem law_Film_b (t : ByteArray) (r : Int) (v : Value) (es : List Ev) (event by_ at_ : Int) (W : World) (hs : SlE W v es) (E : EnvT W) (her : editsErr t r es = 0) :
    Calls Tryz.prog 3 #[.agg #[.string t, .int .i64 r, v], .int .i64 event, .int .i64 by_, .int .i64 at_] W fun e w' => e = .returned (.bool true) ∧ Below W.heap.size W w' := by
  have KP := Lib.hid (fun w u (h : SlE w u es) E => conform_PrintList_ok t r u es w h E her)
  have KR := Lib.hid (fun w E hf => conform_ParseList t r es w E her hf)
  have KS := Lib.hid (fun w u (h : SlE w u es) => conform_Slip t r event by_ u es _ w h rfl)
  have HZ : Hid (turnErr t r es event (slipL es event.toNat (clampB 1073741824 by_)) = 0 → (-16777216 ≤ by_ ∧ by_ ≤ 16777216) ∧ ∀ w u, SlE w u (slipL es event.toNat (clampB 1073741824 by_)) → Calls Tryz.prog 8 #[.agg #[.string t, .int .i64 r, u], .int .i64 event, .int .i64 (-by_)] w fun e w' => Turned w t r 0 es e w') := Lib.hid (fun h => by
    obtain ⟨z0, z1, z2, z3, z4, z5⟩ := turn_zero (F := slipL) (fun j q h hj hq => far_slip q h hj hq) h
    have hj : event.toNat < es.length := by omega
    have hid1 : clampB 1073741824 by_ = by_ := clampB_id _ _ (by omega) (by omega)
    have hid2 : clampB 1073741824 (-by_) = -by_ := clampB_id _ _ (by omega) (by omega)
    refine ⟨⟨z3, z4⟩, fun w u hu => ?_⟩
    rw [hid1] at hu
    have hz := conform_Slip t r event (-by_) u (slipL es event.toNat by_) es w hu (by rw [hid2]; exact slip_back es event.toNat hj by_)
    have he : turnErr t r (slipL es event.toNat by_) event es = 0 := by
      unfold turnErr
      rw [if_neg (by rw [z5]; simp), if_neg (by rw [slip_same]; omega)]
      exact her
    rw [he] at hz
    exact hz)
  have KC := Lib.hid (fun w u u' (h : SlE w u es) (h' : SlE w u' es) => conform_Compare t t r r u u' es es w h h' her her)
  rw [cmpP_self] at KC
  obtain ⟨ev, sr, x, ss, g, qq, ea, ka, heq⟩ := at_form t r es at_ her
  have KA := Lib.hid ka
  clear ka her
  have HA := Lib.hid hs
  obtain ⟨aa, ca, rfl, _, _⟩ := hs
  obtain ⟨na, hna⟩ : ∃ n, n = es.length := ⟨_, rfl⟩
  rw [← hna] at HA ⊢
  have Hna := Lib.hid hna
  clear hna
  go_enter Tryz.func3, Tryz.ntmps3
  go_upto_region 3 with (go_at_call 4; refine (film_landed _).mono ?_; rintro e w' ⟨rfl, rfl⟩)
  refine name_world ?_
  intro w0 hw0
  have x4 : Bx w0 W.heap.size 24 #[.string t, .int .i64 r, .slice aa na ca] := by rw [hw0]; exact Bx.new _ _ _
  have B : Below W.heap.size W w0 := by rw [hw0]; exact bnew (Below.refl _ W)
  clear hw0
  obtain ⟨q4, f4, l4⟩ := x4.all
  go_wp2_with fail
  refine (KP.out _ _ (HA.out.keep B) (E.below B)).mono ?_
  rintro e w1 ⟨tx, er, rfl, htx, hb⟩
  clear q4 f4 l4
  replace x4 := x4.keep hb
  replace B := bcall B hb
  clear hb
  by_cases he : er = 0
  rotate_left
  · have hne : (er != 0) = true := by simpa using he
    go_wp2_with fail
    go_ret
    exact ⟨rfl, B⟩
  obtain ⟨hf, rfl⟩ := htx he
  subst he
  have KR2 := Lib.hid (fun w E => KR.out w E hf)
  obtain ⟨TX, hTX⟩ : ∃ TX, TX = ofL (textR t r es 0 (es.length + 2)) := ⟨_, rfl⟩
  rw [← hTX] at KR2 ⊢
  clear hTX hf htx KP KR
  go_wp2_with fail
  refine (KR2.out _ (E.below B)).mono ?_
  rintro e w2 ⟨v2, rfl, hs2, hb⟩
  replace x4 := x4.keep hb
  replace B := bcall B hb
  clear hb
  have H2 := Lib.hid hs2
  obtain ⟨a2, c2, rfl, _, _⟩ := hs2
  rw [← Hna.out] at H2 ⊢
  obtain ⟨q4, f4, l4⟩ := x4.all
  clear KR2
  go_wp2_with fail
  refine nm_call ?_
  intro w3 hw3
  have x11 : Bx w3 w2.heap.size 24 #[.string t, .int .i64 r, .slice a2 na c2] := by rw [hw3]; exact Bx.new _ _ _
  have hb := below_eq hw3
  clear hw3
  clear q4 f4 l4
  replace x4 := x4.keep hb
  replace H2 := Lib.hid (H2.out.keep hb)
  replace B := bcall B hb
  clear hb
  generalize w2.heap.size = p11 at *
  refine (KA.out _ _ (HA.out.keep B)).mono ?_
  rintro e w4 ⟨rfl, hb⟩
  replace x4 := x4.keep hb
  replace x11 := x11.keep hb
  replace H2 := Lib.hid (H2.out.keep hb)
  replace B := bcall B hb
  clear hb
  obtain ⟨q4, f4, l4⟩ := x4.all
  obtain ⟨q11, f11, l11⟩ := x11.all
  go_wp2_with fail
  refine nm_call ?_
  intro w5 hw5
  have x13 : Bx w5 w4.heap.size 33 #[.int .i64 ev, .string sr, .int .i64 x, .string ss, .int .i64 g, .float .f32 qq] := by rw [hw5]; exact Bx.new _ _ _
  have hb := below_eq hw5
  clear hw5
  clear q4 f4 l4 q11 f11 l11
  replace x4 := x4.keep hb
  replace x11 := x11.keep hb
  replace H2 := Lib.hid (H2.out.keep hb)
  replace B := bcall B hb
  clear hb
  generalize w4.heap.size = p13 at *
  refine (KA.out _ _ H2.out).mono ?_
  rintro e w6 ⟨rfl, hb⟩
  replace x4 := x4.keep hb
  replace x11 := x11.keep hb
  replace x13 := x13.keep hb
  replace H2 := Lib.hid (H2.out.keep hb)
  replace B := bcall B hb
  clear hb
  obtain ⟨q4, f4, l4⟩ := x4.all
  obtain ⟨q11, f11, l11⟩ := x11.all
  obtain ⟨q13, f13, l13⟩ := x13.all
  go_upto_region 11 with fail
  refine name_world ?_
  intro w7 hw7
  have x14 : Bx w7 w6.heap.size 33 #[.int .i64 ev, .string sr, .int .i64 x, .string ss, .int .i64 g, .float .f32 qq] := by rw [hw7]; exact Bx.new _ _ _
  have hb := below_eq hw7
  clear hw7
  clear q4 f4 l4 q11 f11 l11 q13 f13 l13
  replace x4 := x4.keep hb
  replace x11 := x11.keep hb
  replace x13 := x13.keep hb
  replace H2 := Lib.hid (H2.out.keep hb)
  replace B := bcall B hb
  clear hb
  generalize w6.heap.size = p14 at *
  obtain ⟨q4, f4, l4⟩ := x4.all
  obtain ⟨q11, f11, l11⟩ := x11.all
  obtain ⟨q13, f13, l13⟩ := x13.all
  obtain ⟨q14, f14, l14⟩ := x14.all
  go_wp2_with fail
  refine (KS.out _ _ H2.out).mono ?_
  rintro e w8 ⟨v3, rfl, hs3, _, hb⟩
  clear q4 f4 l4 q11 f11 l11 q13 f13 l13 q14 f14 l14
  clear x13 x14
  replace x4 := x4.keep hb
  replace x11 := x11.keep hb
  replace B := bcall B hb
  clear hb
  clear KS
  by_cases he : turnErr t r es event (slipL es event.toNat (clampB 1073741824 by_)) = 0
  rotate_left
  · have hne : (turnErr t r es event (slipL es event.toNat (clampB 1073741824 by_)) != 0) = true := by simpa using he
    generalize turnErr t r es event (slipL es event.toNat (clampB 1073741824 by_)) = er at *
    clear HZ
    generalize outT er t = t3 at *
    generalize outR er r = r3 at *
    obtain ⟨a3, c3, rfl, _, _⟩ := hs3
    generalize (outE er (slipL es event.toNat (clampB 1073741824 by_))).length = n3 at *
    obtain ⟨q4, f4, l4⟩ := x4.all
    go_wp2_with fail
    go_ret
    exact ⟨rfl, bnew B⟩
  obtain ⟨⟨y1, y2⟩, KS2⟩ := HZ.out he
  rw [he] at hs3 ⊢
  have KS3 := Lib.hid KS2
  clear KS2 HZ
  simp only [outT, outR, outE, if_true] at hs3 ⊢
  have H3 := Lib.hid hs3
  obtain ⟨a3, c3, rfl, _, _⟩ := hs3
  generalize hn3 : (slipL es event.toNat (clampB 1073741824 by_)).length = n3 at *
  generalize slipL es event.toNat (clampB 1073741824 by_) = es3 at *
  clear hn3 he
  have hneg : IntKind.i64.wrap (-by_) = -by_ := IntWalk.i64_in _ (by omega)
  obtain ⟨q4, f4, l4⟩ := x4.all
  go_wp2_with fail
  refine nm_call ?_
  intro w9 hw9
  have x16 : Bx w9 w8.heap.size 24 #[.string t, .int .i64 r, .slice a3 n3 c3] := by rw [hw9]; exact Bx.new _ _ _
  have hb := below_eq hw9
  clear hw9
  have h416 : W.heap.size < w8.heap.size := l4
  have hW16 := Nat.le_of_lt h416
  replace x4 := x4.keep hb
  replace H3 := Lib.hid (H3.out.keep hb)
  replace B := bcall B hb
  clear hb q4 f4 l4
  generalize w8.heap.size = p16 at *
  refine (KS3.out _ _ H3.out).mono ?_
  rintro e w10 ⟨v4, rfl, hs4, ho, hb⟩
  simp only [outT, outR, outE, if_true] at hs4 ⊢
  have hp16 := x16.lt
  replace x4 := x4.keep hb
  replace x16 := x16.keep hb
  replace B := bcall B hb
  clear hb KS3 H3
  have hs5 : SlE (((w10.setCell ⟨p16, 0, none⟩ (.string t)).setCell ⟨p16, 1, none⟩ (.int .i64 r)).setCell ⟨p16, 2, none⟩ v4) v4 es := ((hs4.put ho hp16).put ho hp16).put ho hp16
  have H4 := Lib.hid hs5
  obtain ⟨a4, c4, rfl, _, _⟩ := hs4
  rw [← Hna.out] at H4 ⊢
  clear hs5 ho hneg
  obtain ⟨q16, f16, l16⟩ := x16.all
  obtain ⟨q4, f4, l4⟩ := x4.all
  go_upto_region 19 with fail
  refine name_world ?_
  intro w11 hw11
  have on : Only p16 w10 w11 := by rw [hw11]; exact (((Only.refl p16 w10).set _ _).set _ _).set _ _
  have y16 : Bx w11 p16 24 #[.string t, .int .i64 r, .slice a4 na c4] := by rw [hw11]; exact ((x16.set 0 _).set 1 _).set 2 _
  rw [← hw11] at H4
  replace x4 := on.bx (by omega) x4
  replace B := bonly B on hW16
  clear hw11 on x16 q16 f16 l16 q4 f4 l4
  obtain ⟨q16, f16, l16⟩ := y16.all
  obtain ⟨q4, f4, l4⟩ := x4.all
  go_wp2_with fail
  refine (KC.out _ _ _ (HA.out.keep B) H4.out).mono ?_
  rintro e w12 ⟨vd, rfl, hd, hb⟩
  replace B := bcall B hb
  clear hb
  obtain ⟨ad, cd, rfl⟩ : ∃ a c, vd = .slice a 0 c := by
    rcases hd.form with ⟨_, rfl⟩ | ⟨g', c', rfl, _⟩
    · exact ⟨_, _, rfl⟩
    · exact ⟨_, _, rfl⟩
  clear hd
  go_wp2_with fail
  go_ret
  exact ⟨rfl, B⟩

theorem law_Film (t : ByteArray) (r : Int) (v : Value) (es : List Ev) (event by_ at_ : Int) (W : World) (hs : SlE W v es) (E : EnvT W) :
    Calls Tryz.prog 3 #[.agg #[.string t, .int .i64 r, v], .int .i64 event, .int .i64 by_, .int .i64 at_] W fun e w' => e = .returned (.bool true) ∧ Below W.heap.size W w' := by
  by_cases her : editsErr t r es = 0
  · exact law_Film_b t r v es event by_ at_ W hs E her
  · exact law_Film_a t r v es event by_ at_ W hs her
end Go.Proofs.YtemlabmmafcapaaGreatDoor
