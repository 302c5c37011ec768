/- EditsAreTrimmed, walked. (printed by gen_lawed.py) -/
import Derived.Test.YtjicgbpnplmpbaaDoorTrr
import Derived.Test.YtjicgbpnplmpbaaDoorEqE
namespace Go.Proofs.YtjicgbpnplmpbaaDoor
open Go.RowKit

theorem ed_of {t : ByteArray} {r : Int} {es b : List Ev} (h : editsErr t r es = 0) (hl : b.length = es.length) : editsErr t r b = evsTo b b.length := by
  obtain ⟨h1, h2, h3, _⟩ := edits_ok h
  unfold editsErr
  rw [if_neg (by rw [h1]; simp), if_neg (by rw [h2]; simp), if_neg (by omega)]
theorem far_slip {t : ByteArray} {r : Int} {es : List Ev} {j : Nat} (q : Int) (h : editsErr t r es = 0) (hj : j < es.length) (hq : q < -16777216 ∨ 16777216 < q) : editsErr t r (slipL es j q) = 3 := by
  have hl : (slipL es j q).length = es.length := by rw [slipL, List.length_set]
  rw [ed_of h hl]
  obtain ⟨a, b, c, _, _⟩ := edits_in h j hj
  have e1 : (slipL es j q).getD j default = { es.getD j default with inn := (es.getD j default).inn + q, out := (es.getD j default).out + q } := by simp [slipL, List.getD, hj]
  refine far_err es _ j hj hl (edits_ok h).2.2.2 (fun i hi => ?_) (by rw [e1]) (by rw [e1]) ?_
  · simp [slipL, List.getD, List.getElem?_set_ne (show j ≠ i by omega)]
  · rw [e1]; simp only []; omega
theorem far_trim {t : ByteArray} {r : Int} {es : List Ev} {j : Nat} (q : Int) (h : editsErr t r es = 0) (hj : j < es.length) (hq : q < -16777216 ∨ 16777216 < q) : editsErr t r (trimE es j q) = 3 := by
  have hl : (trimE es j q).length = es.length := by rw [trimE, trimL_length]
  rw [ed_of h hl]
  obtain ⟨a, b, c, _, _⟩ := edits_in h j hj
  have e0 := fun i hi => trimL_get es j q hj (es.length - j - 1) (by omega) i hi
  have e1 := e0 j hj
  rw [if_pos rfl] at e1
  refine far_err es _ j hj hl (edits_ok h).2.2.2 (fun i hi => ?_) (by rw [trimE, e1]) (by rw [trimE, e1]) ?_
  · rw [trimE, e0 i (by omega), if_neg (by omega), if_neg (by omega)]
  · rw [trimE, e1]; simp only []; omega
theorem slip_same (es : List Ev) (j : Nat) (q : Int) : (slipL es j q).length = es.length := by rw [slipL, List.length_set]
theorem trim_same (es : List Ev) (j : Nat) (q : Int) : (trimE es j q).length = es.length := by rw [trimE, trimL_length]
theorem trimE_back (es : List Ev) (j : Nat) (hj : j < es.length) (q : Int) : trimE (trimE es j q) j (-q) = es := by
  rw [trimE, trim_same, trimE]
  exact trim_back es j hj q _ (by omega)

/-- Two clamps, one answer. -/
theorem clamps {t : ByteArray} {r : Int} {es : List Ev} {event b : Int} {F : List Ev → Nat → Int → List Ev} (hfar : ∀ (j : Nat) (q : Int), editsErr t r es = 0 → j < es.length → (q < -16777216 ∨ 16777216 < q) → editsErr t r (F es j q) = 3) :
    turnErr t r es event (F es event.toNat (clampB 1099511627776 b)) = turnErr t r es event (F es event.toNat (clampB 1073741824 b)) ∧
    outE (turnErr t r es event (F es event.toNat (clampB 1073741824 b))) (F es event.toNat (clampB 1099511627776 b)) = outE (turnErr t r es event (F es event.toNat (clampB 1073741824 b))) (F es event.toNat (clampB 1073741824 b)) := by
  by_cases hb : -1073741824 ≤ b ∧ b ≤ 1073741824
  · rw [clampB_id 1099511627776 b (by omega) (by omega), clampB_id 1073741824 b (by omega) (by omega)]
    exact ⟨rfl, rfl⟩
  have k1 : clampB 1099511627776 b < -16777216 ∨ 16777216 < clampB 1099511627776 b := by unfold clampB imin imax; split <;> split <;> omega
  have k2 : clampB 1073741824 b < -16777216 ∨ 16777216 < clampB 1073741824 b := by unfold clampB imin imax; split <;> split <;> omega
  by_cases h0 : editsErr t r es = 0
  · by_cases h1 : event < 0 ∨ (es.length : Int) ≤ event
    · have e1 : ∀ L, turnErr t r es event L = 11 := fun L => by rw [turnErr, if_neg (by simpa using h0), if_pos h1]
      rw [e1, e1]
      exact ⟨rfl, by rw [outE, outE, if_neg (by omega), if_neg (by omega)]⟩
    · have e1 : ∀ L, turnErr t r es event L = editsErr t r L := fun L => by rw [turnErr, if_neg (by simpa using h0), if_neg h1]
      rw [e1, e1, hfar _ _ h0 (by omega) k1, hfar _ _ h0 (by omega) k2]
      exact ⟨rfl, by rw [outE, outE, if_neg (by omega), if_neg (by omega)]⟩
  · have e1 : ∀ L, turnErr t r es event L = editsErr t r es := fun L => by rw [turnErr, if_pos h0]
    rw [e1, e1]
    exact ⟨rfl, by rw [outE, outE, if_neg h0, if_neg h0]⟩
theorem turn_zero {t : ByteArray} {r : Int} {es : List Ev} {event b : Int} {F : List Ev → Nat → Int → List Ev} (hfar : ∀ (j : Nat) (q : Int), editsErr t r es = 0 → j < es.length → (q < -16777216 ∨ 16777216 < q) → editsErr t r (F es j q) = 3)
    (h : turnErr t r es event (F es event.toNat (clampB 1073741824 b)) = 0) : editsErr t r es = 0 ∧ 0 ≤ event ∧ event < es.length ∧ -16777216 ≤ b ∧ b ≤ 16777216 ∧ editsErr t r (F es event.toNat b) = 0 := by
  unfold turnErr at h
  split at h
  · contradiction
  have h0 : editsErr t r es = 0 := by simpa using ‹¬editsErr t r es ≠ 0›
  split at h
  · cases h
  have hb : -16777216 ≤ clampB 1073741824 b ∧ clampB 1073741824 b ≤ 16777216 := by
    by_cases hb : clampB 1073741824 b < -16777216 ∨ 16777216 < clampB 1073741824 b
    · rw [hfar _ _ h0 (by omega) hb] at h; cases h
    · omega
  have hid : clampB 1073741824 b = b := by
    revert hb; unfold clampB imin imax; split <;> split <;> omega
  rw [hid] at h hb
  exact ⟨h0, by omega, by omega, hb.1, hb.2, h⟩

/-- A call's result, n events. -/
def Res (W : World) (t : ByteArray) (r : Int) (er : Int) (n : Nat) (L : List Ev) (e : Ending) (w' : World) : Prop :=
  ∃ a c, e = .returned (.tuple #[.agg #[.string t, .int .i64 r, .slice a n c], .int .i64 er]) ∧ SlE w' (.slice a n c) L ∧ Below W.heap.size W w'
theorem Turned.res {W w' : World} {t : ByteArray} {r er : Int} {L : List Ev} {e : Ending} (h : Turned W t r er L e w') : Res W (outT er t) (outR er r) er (outE er L).length (outE er L) e w' := by
  obtain ⟨v, rfl, h1, _, h2⟩ := h
  have h3 := h1
  obtain ⟨a, c, rfl, _, _⟩ := h1
  exact ⟨a, c, rfl, h3, h2⟩

theorem slip_pack (t : ByteArray) (r event b : Int) (v : Value) (es : List Ev) (W : World) (hs : SlE W v es) : ∃ (T1 : ByteArray) (R1 e1 : Int) (n1 : Nat) (L1 : List Ev),
    Hid (∀ w, Below W.heap.size W w → Calls Tryd.prog 21 #[.agg #[.string t, .int .i64 r, v], .int .i64 event, .int .i64 b] w fun e w' => Res w T1 R1 e1 n1 L1 e w') ∧
    Hid (∀ w, Below W.heap.size W w → Calls Tryd.prog 22 #[.agg #[.string t, .int .i64 r, v], .int .i64 event, .int .i64 b, .bool false] w fun e w' => Res w T1 R1 e1 n1 L1 e w') ∧
    Hid (L1.length ≤ 1000) ∧
    (e1 = 0 → -16777216 ≤ b ∧ b ≤ 16777216 ∧ Hid (es.length ≤ 1000) ∧ Hid (∀ w v', SlE w v' L1 → Calls Tryd.prog 21 #[.agg #[.string T1, .int .i64 R1, v'], .int .i64 event, .int .i64 (-b)] w fun e w' => Res w t r 0 es.length es e w')) := by
  have hfar : ∀ (j : Nat) (q : Int), editsErr t r es = 0 → j < es.length → (q < -16777216 ∨ 16777216 < q) → editsErr t r (slipL es j q) = 3 := fun j q h hj hq => far_slip q h hj hq
  obtain ⟨h1, h2⟩ := clamps (event := event) (b := b) hfar
  have hz := turn_zero (event := event) (b := b) hfar
  generalize he : turnErr t r es event (slipL es event.toNat (clampB 1073741824 b)) = e1 at h1 h2 hz
  refine ⟨outT e1 t, outR e1 r, e1, (outE e1 (slipL es event.toNat (clampB 1073741824 b))).length, outE e1 (slipL es event.toNat (clampB 1073741824 b)), Lib.hid fun w B => ?_, Lib.hid fun w B => ?_, Lib.hid ?_, fun h0 => ?_⟩
  · refine (conform_Slip t r event b v es _ w (hs.keep B) rfl).mono fun e w' h => ?_
    rw [he] at h
    exact h.res
  · refine (ref_Trimmed t r event b v false es _ w (hs.keep B) rfl).mono fun e w' h => ?_
    have h3 := h
    simp only [Bool.false_eq_true, if_false] at h3
    rw [h1] at h3
    have h4 := h3.res
    rw [h2] at h4
    exact h4
  · unfold outE
    split
    · obtain ⟨z, _, _, _⟩ := hz ‹_›
      have := (edits_ok z).2.2.1
      rw [slip_same]; omega
    · simp
  · subst h0
    obtain ⟨z, z1, z2, b1, b2, z3⟩ := hz rfl
    have h5 := (edits_ok z).2.2.1
    refine ⟨b1, b2, Lib.hid (by omega), Lib.hid fun w v' hv => ?_⟩
    have hc : clampB 1073741824 b = b := clampB_id _ _ (by omega) (by omega)
    have hc' : clampB 1073741824 (-b) = -b := clampB_id _ _ (by omega) (by omega)
    rw [hc, outE, if_pos rfl] at hv
    rw [outT, outR, if_pos rfl, if_pos rfl]
    have hj : event.toNat < es.length := by omega
    refine (conform_Slip t r event (-b) v' _ es w hv (by rw [hc']; exact slip_back _ _ hj _)).mono fun e w' h => ?_
    have e2 : turnErr t r (slipL es event.toNat b) event es = 0 := by
      rw [turnErr, if_neg (by simpa using z3), if_neg (by rw [slip_same]; omega)]; exact z
    rw [e2] at h
    exact h.res

theorem trim_pack (t : ByteArray) (r event b : Int) (v : Value) (es : List Ev) (W : World) (hs : SlE W v es) : ∃ (T1 : ByteArray) (R1 e1 : Int) (n1 : Nat) (L1 : List Ev),
    Hid (∀ w, Below W.heap.size W w → Calls Tryd.prog 23 #[.agg #[.string t, .int .i64 r, v], .int .i64 event, .int .i64 b] w fun e w' => Res w T1 R1 e1 n1 L1 e w') ∧
    Hid (∀ w, Below W.heap.size W w → Calls Tryd.prog 22 #[.agg #[.string t, .int .i64 r, v], .int .i64 event, .int .i64 b, .bool true] w fun e w' => Res w T1 R1 e1 n1 L1 e w') ∧
    Hid (L1.length ≤ 1000) ∧
    (e1 = 0 → -16777216 ≤ b ∧ b ≤ 16777216 ∧ Hid (es.length ≤ 1000) ∧ Hid (∀ w v', SlE w v' L1 → Calls Tryd.prog 23 #[.agg #[.string T1, .int .i64 R1, v'], .int .i64 event, .int .i64 (-b)] w fun e w' => Res w t r 0 es.length es e w')) := by
  have hfar : ∀ (j : Nat) (q : Int), editsErr t r es = 0 → j < es.length → (q < -16777216 ∨ 16777216 < q) → editsErr t r (trimE es j q) = 3 := fun j q h hj hq => far_trim q h hj hq
  obtain ⟨h1, h2⟩ := clamps (event := event) (b := b) hfar
  have hz := turn_zero (event := event) (b := b) hfar
  generalize he : turnErr t r es event (trimE es event.toNat (clampB 1073741824 b)) = e1 at h1 h2 hz
  refine ⟨outT e1 t, outR e1 r, e1, (outE e1 (trimE es event.toNat (clampB 1073741824 b))).length, outE e1 (trimE es event.toNat (clampB 1073741824 b)), Lib.hid fun w B => ?_, Lib.hid fun w B => ?_, Lib.hid ?_, fun h0 => ?_⟩
  · refine (conform_Trim t r event b v es _ w (hs.keep B) rfl).mono fun e w' h => ?_
    rw [he] at h
    exact h.res
  · refine (ref_Trimmed t r event b v true es _ w (hs.keep B) rfl).mono fun e w' h => ?_
    have h3 := h
    simp only [if_true] at h3
    rw [h1] at h3
    have h4 := h3.res
    rw [h2] at h4
    exact h4
  · unfold outE
    split
    · obtain ⟨z, _, _, _⟩ := hz ‹_›
      have := (edits_ok z).2.2.1
      rw [trim_same]; omega
    · simp
  · subst h0
    obtain ⟨z, z1, z2, b1, b2, z3⟩ := hz rfl
    have h5 := (edits_ok z).2.2.1
    refine ⟨b1, b2, Lib.hid (by omega), Lib.hid fun w v' hv => ?_⟩
    have hc : clampB 1073741824 b = b := clampB_id _ _ (by omega) (by omega)
    have hc' : clampB 1073741824 (-b) = -b := clampB_id _ _ (by omega) (by omega)
    rw [hc, outE, if_pos rfl] at hv
    rw [outT, outR, if_pos rfl, if_pos rfl]
    have hj : event.toNat < es.length := by omega
    refine (conform_Trim t r event (-b) v' _ es w hv (by rw [hc']; exact trimE_back _ _ hj _)).mono fun e w' h => ?_
    have e2 : turnErr t r (trimE es event.toNat b) event es = 0 := by
      rw [turnErr, if_neg (by simpa using z3), if_neg (by rw [trim_same]; omega)]; exact z
    rw [e2] at h
    exact h.res

set_option maxRecDepth 100000 in
set_option maxHeartbeats 8000000 in
theorem law_Edits (t : ByteArray) (r : Int) (v : Value) (es : List Ev) (event by_ : Int) (W : World) (hs : SlE W v es) :
    Calls Tryd.prog 5 #[.agg #[.string t, .int .i64 r, v], .int .i64 event, .int .i64 by_] W fun e w' => e = .returned (.bool true) ∧ Below W.heap.size W w' := by
  obtain ⟨T1, R1, e1, n1, L1, H1, H2, K1, K3⟩ := slip_pack t r event by_ v es W hs
  obtain ⟨T2, R2, e2, n2, L2, H3, H4, K2, K4⟩ := trim_pack t r event by_ v es W hs
  have hv := hs
  obtain ⟨a, c, rfl, -, -⟩ := hv
  generalize hn : es.length = n at *
  have Hn := Lib.hid hn
  clear hn
  go_enter Tryd.func5, Tryd.ntmps5
  go_upto_region 3 with (go_at_call 7; refine (law_landed _).mono ?_; rintro e w' ⟨rfl, rfl⟩)
  refine name_world ?_
  intro w0 hw0
  have x3 : Bx w0 W.heap.size 52 #[.string t, .int .i64 r, .slice a n c] := by rw [hw0]; exact Bx.new _ _ _
  have B : Below W.heap.size W w0 := by rw [hw0]; exact bnew (Below.refl _ W)
  have sl := hs.keep B
  clear hw0 hs
  obtain ⟨qx3, fx3, lx3⟩ := x3.all
  go_wp2_with fail
  refine (H1.out _ B).mono ?_
  rintro e v1 ⟨a1, c1, rfl, s1, hb⟩
  clear qx3 fx3 lx3
  replace x3 := x3.keep hb
  replace sl := sl.keep hb
  replace B := bcall B hb
  clear hb
  obtain ⟨qx3, fx3, lx3⟩ := x3.all
  go_upto_region 4 with fail
  refine name_world ?_
  intro v2 hw
  have y1 : Bx v2 v1.heap.size 52 #[.string T1, .int .i64 R1, .slice a1 n1 c1] := by rw [hw]; exact Bx.new _ _ _
  have hb : Below v1.heap.size v1 v2 := by rw [hw]; exact bnew (Below.refl _ _)
  clear hw
  clear qx3 fx3 lx3
  replace x3 := x3.keep hb
  replace sl := sl.keep hb
  replace s1 := s1.keep hb
  replace B := bcall B hb
  clear hb
  generalize v1.heap.size = p1 at *
  obtain ⟨qx3, fx3, lx3⟩ := x3.all
  obtain ⟨qy1, fy1, ly1⟩ := y1.all
  go_wp2_with fail
  refine (H2.out _ B).mono ?_
  rintro e v3 ⟨a2, c2, rfl, s2, hb⟩
  clear qx3 fx3 lx3 qy1 fy1 ly1
  replace x3 := x3.keep hb
  replace y1 := y1.keep hb
  replace sl := sl.keep hb
  replace s1 := s1.keep hb
  replace B := bcall B hb
  clear hb
  obtain ⟨qx3, fx3, lx3⟩ := x3.all
  obtain ⟨qy1, fy1, ly1⟩ := y1.all
  go_upto_region 5 with fail
  refine name_world ?_
  intro v4 hw
  have y2 : Bx v4 v3.heap.size 52 #[.string T1, .int .i64 R1, .slice a2 n1 c2] := by rw [hw]; exact Bx.new _ _ _
  have hb : Below v3.heap.size v3 v4 := by rw [hw]; exact bnew (Below.refl _ _)
  clear hw
  clear qx3 fx3 lx3 qy1 fy1 ly1
  replace x3 := x3.keep hb
  replace y1 := y1.keep hb
  replace sl := sl.keep hb
  replace s1 := s1.keep hb
  replace s2 := s2.keep hb
  replace B := bcall B hb
  clear hb
  generalize v3.heap.size = p2 at *
  obtain ⟨qx3, fx3, lx3⟩ := x3.all
  obtain ⟨qy1, fy1, ly1⟩ := y1.all
  obtain ⟨qy2, fy2, ly2⟩ := y2.all
  go_wp2_with fail
  refine (H3.out _ B).mono ?_
  rintro e v5 ⟨a3, c3, rfl, s3, hb⟩
  clear qx3 fx3 lx3 qy1 fy1 ly1 qy2 fy2 ly2
  replace x3 := x3.keep hb
  replace y1 := y1.keep hb
  replace y2 := y2.keep hb
  replace sl := sl.keep hb
  replace s1 := s1.keep hb
  replace s2 := s2.keep hb
  replace B := bcall B hb
  clear hb
  obtain ⟨qx3, fx3, lx3⟩ := x3.all
  obtain ⟨qy1, fy1, ly1⟩ := y1.all
  obtain ⟨qy2, fy2, ly2⟩ := y2.all
  go_upto_region 6 with fail
  refine name_world ?_
  intro v6 hw
  have y3 : Bx v6 v5.heap.size 52 #[.string T2, .int .i64 R2, .slice a3 n2 c3] := by rw [hw]; exact Bx.new _ _ _
  have hb : Below v5.heap.size v5 v6 := by rw [hw]; exact bnew (Below.refl _ _)
  clear hw
  clear qx3 fx3 lx3 qy1 fy1 ly1 qy2 fy2 ly2
  replace x3 := x3.keep hb
  replace y1 := y1.keep hb
  replace y2 := y2.keep hb
  replace sl := sl.keep hb
  replace s1 := s1.keep hb
  replace s2 := s2.keep hb
  replace s3 := s3.keep hb
  replace B := bcall B hb
  clear hb
  generalize v5.heap.size = p3 at *
  obtain ⟨qx3, fx3, lx3⟩ := x3.all
  obtain ⟨qy1, fy1, ly1⟩ := y1.all
  obtain ⟨qy2, fy2, ly2⟩ := y2.all
  obtain ⟨qy3, fy3, ly3⟩ := y3.all
  go_wp2_with fail
  refine (H4.out _ B).mono ?_
  rintro e v7 ⟨a4, c4, rfl, s4, hb⟩
  clear qx3 fx3 lx3 qy1 fy1 ly1 qy2 fy2 ly2 qy3 fy3 ly3
  replace x3 := x3.keep hb
  replace y1 := y1.keep hb
  replace y2 := y2.keep hb
  replace y3 := y3.keep hb
  replace sl := sl.keep hb
  replace s1 := s1.keep hb
  replace s2 := s2.keep hb
  replace s3 := s3.keep hb
  replace B := bcall B hb
  clear hb
  obtain ⟨qx3, fx3, lx3⟩ := x3.all
  obtain ⟨qy1, fy1, ly1⟩ := y1.all
  obtain ⟨qy2, fy2, ly2⟩ := y2.all
  obtain ⟨qy3, fy3, ly3⟩ := y3.all
  go_upto_region 7 with fail
  refine name_world ?_
  intro v8 hw
  have y4 : Bx v8 v7.heap.size 52 #[.string T2, .int .i64 R2, .slice a4 n2 c4] := by rw [hw]; exact Bx.new _ _ _
  have hb : Below v7.heap.size v7 v8 := by rw [hw]; exact bnew (Below.refl _ _)
  clear hw
  clear qx3 fx3 lx3 qy1 fy1 ly1 qy2 fy2 ly2 qy3 fy3 ly3
  replace x3 := x3.keep hb
  replace y1 := y1.keep hb
  replace y2 := y2.keep hb
  replace y3 := y3.keep hb
  replace sl := sl.keep hb
  replace s1 := s1.keep hb
  replace s2 := s2.keep hb
  replace s3 := s3.keep hb
  replace s4 := s4.keep hb
  replace B := bcall B hb
  clear hb
  generalize v7.heap.size = p4 at *
  have ne1 : (e1 != e1) = false := by simp
  have ne2 : (e2 != e2) = false := by simp
  obtain ⟨qx3, fx3, lx3⟩ := x3.all
  obtain ⟨qy1, fy1, ly1⟩ := y1.all
  obtain ⟨qy2, fy2, ly2⟩ := y2.all
  obtain ⟨qy3, fy3, ly3⟩ := y3.all
  obtain ⟨qy4, fy4, ly4⟩ := y4.all
  go_wp2_with fail
  refine (law_sameEdits T1 R1 _ _ L1 _ K1.out s1 s2).mono ?_
  rintro e v9 ⟨rfl, hb⟩
  clear qx3 fx3 lx3 qy1 fy1 ly1 qy2 fy2 ly2 qy3 fy3 ly3 qy4 fy4 ly4
  replace x3 := x3.keep hb
  replace y1 := y1.keep hb
  replace y2 := y2.keep hb
  replace y3 := y3.keep hb
  replace y4 := y4.keep hb
  replace sl := sl.keep hb
  replace s1 := s1.keep hb
  replace s2 := s2.keep hb
  replace s3 := s3.keep hb
  replace s4 := s4.keep hb
  replace B := bcall B hb
  clear hb
  obtain ⟨qx3, fx3, lx3⟩ := x3.all
  obtain ⟨qy1, fy1, ly1⟩ := y1.all
  obtain ⟨qy2, fy2, ly2⟩ := y2.all
  obtain ⟨qy3, fy3, ly3⟩ := y3.all
  obtain ⟨qy4, fy4, ly4⟩ := y4.all
  go_wp2_with fail
  refine (law_sameEdits T2 R2 _ _ L2 _ K2.out s3 s4).mono ?_
  rintro e v10 ⟨rfl, hb⟩
  clear qx3 fx3 lx3 qy1 fy1 ly1 qy2 fy2 ly2 qy3 fy3 ly3 qy4 fy4 ly4
  replace x3 := x3.keep hb
  replace y1 := y1.keep hb
  replace y2 := y2.keep hb
  replace y3 := y3.keep hb
  replace y4 := y4.keep hb
  replace sl := sl.keep hb
  replace s1 := s1.keep hb
  replace s2 := s2.keep hb
  replace s3 := s3.keep hb
  replace s4 := s4.keep hb
  replace B := bcall B hb
  clear hb
  by_cases z1 : e1 = 0
  · subst z1
    obtain ⟨b1, b2, hl, H5⟩ := K3 rfl
    obtain ⟨qx3, fx3, lx3⟩ := x3.all
    obtain ⟨qy1, fy1, ly1⟩ := y1.all
    obtain ⟨qy2, fy2, ly2⟩ := y2.all
    obtain ⟨qy3, fy3, ly3⟩ := y3.all
    obtain ⟨qy4, fy4, ly4⟩ := y4.all
    go_wp2_with fail
    refine (H5.out _ _ s1).mono ?_
    rintro e v11 ⟨a5, c5, rfl, s5, hb⟩
    clear qx3 fx3 lx3 qy1 fy1 ly1 qy2 fy2 ly2 qy3 fy3 ly3 qy4 fy4 ly4
    replace x3 := x3.keep hb
    replace y1 := y1.keep hb
    replace y2 := y2.keep hb
    replace y3 := y3.keep hb
    replace y4 := y4.keep hb
    replace sl := sl.keep hb
    replace s1 := s1.keep hb
    replace s2 := s2.keep hb
    replace s3 := s3.keep hb
    replace s4 := s4.keep hb
    replace B := bcall B hb
    clear hb
    obtain ⟨qx3, fx3, lx3⟩ := x3.all
    obtain ⟨qy1, fy1, ly1⟩ := y1.all
    obtain ⟨qy2, fy2, ly2⟩ := y2.all
    obtain ⟨qy3, fy3, ly3⟩ := y3.all
    obtain ⟨qy4, fy4, ly4⟩ := y4.all
    go_upto_region 11 with fail
    refine name_world ?_
    intro v12 hw
    have y5 : Bx v12 v11.heap.size 52 #[.string t, .int .i64 r, .slice a5 n c5] := by rw [hw]; exact Bx.new _ _ _
    have hb : Below v11.heap.size v11 v12 := by rw [hw]; exact bnew (Below.refl _ _)
    clear hw
    clear qx3 fx3 lx3 qy1 fy1 ly1 qy2 fy2 ly2 qy3 fy3 ly3 qy4 fy4 ly4
    replace x3 := x3.keep hb
    replace y1 := y1.keep hb
    replace y2 := y2.keep hb
    replace y3 := y3.keep hb
    replace y4 := y4.keep hb
    replace sl := sl.keep hb
    replace s1 := s1.keep hb
    replace s2 := s2.keep hb
    replace s3 := s3.keep hb
    replace s4 := s4.keep hb
    replace s5 := s5.keep hb
    replace B := bcall B hb
    clear hb
    generalize v11.heap.size = p5 at *
    obtain ⟨qx3, fx3, lx3⟩ := x3.all
    obtain ⟨qy1, fy1, ly1⟩ := y1.all
    obtain ⟨qy2, fy2, ly2⟩ := y2.all
    obtain ⟨qy3, fy3, ly3⟩ := y3.all
    obtain ⟨qy4, fy4, ly4⟩ := y4.all
    obtain ⟨qy5, fy5, ly5⟩ := y5.all
    go_wp2_with fail
    refine (law_sameEdits t r _ _ es _ (by rw [Hn.out]; exact hl.out) s5 sl).mono ?_
    rintro e v13 ⟨rfl, hb⟩
    clear qx3 fx3 lx3 qy1 fy1 ly1 qy2 fy2 ly2 qy3 fy3 ly3 qy4 fy4 ly4 qy5 fy5 ly5
    replace x3 := x3.keep hb
    replace y1 := y1.keep hb
    replace y2 := y2.keep hb
    replace y3 := y3.keep hb
    replace y4 := y4.keep hb
    replace y5 := y5.keep hb
    replace sl := sl.keep hb
    replace s1 := s1.keep hb
    replace s2 := s2.keep hb
    replace s3 := s3.keep hb
    replace s4 := s4.keep hb
    replace s5 := s5.keep hb
    replace B := bcall B hb
    clear hb
    clear H5 b1 b2 hl
    by_cases z2 : e2 = 0
    · subst z2
      obtain ⟨b1, b2, hl, H6⟩ := K4 rfl
      obtain ⟨qx3, fx3, lx3⟩ := x3.all
      obtain ⟨qy1, fy1, ly1⟩ := y1.all
      obtain ⟨qy2, fy2, ly2⟩ := y2.all
      obtain ⟨qy3, fy3, ly3⟩ := y3.all
      obtain ⟨qy4, fy4, ly4⟩ := y4.all
      obtain ⟨qy5, fy5, ly5⟩ := y5.all
      go_wp2_with fail
      refine (H6.out _ _ s3).mono ?_
      rintro e v14 ⟨a6, c6, rfl, s6, hb⟩
      clear qx3 fx3 lx3 qy1 fy1 ly1 qy2 fy2 ly2 qy3 fy3 ly3 qy4 fy4 ly4 qy5 fy5 ly5
      replace x3 := x3.keep hb
      replace y1 := y1.keep hb
      replace y2 := y2.keep hb
      replace y3 := y3.keep hb
      replace y4 := y4.keep hb
      replace y5 := y5.keep hb
      replace sl := sl.keep hb
      replace s1 := s1.keep hb
      replace s2 := s2.keep hb
      replace s3 := s3.keep hb
      replace s4 := s4.keep hb
      replace s5 := s5.keep hb
      replace B := bcall B hb
      clear hb
      obtain ⟨qx3, fx3, lx3⟩ := x3.all
      obtain ⟨qy1, fy1, ly1⟩ := y1.all
      obtain ⟨qy2, fy2, ly2⟩ := y2.all
      obtain ⟨qy3, fy3, ly3⟩ := y3.all
      obtain ⟨qy4, fy4, ly4⟩ := y4.all
      obtain ⟨qy5, fy5, ly5⟩ := y5.all
      go_upto_region 15 with fail
      refine name_world ?_
      intro v15 hw
      have y6 : Bx v15 v14.heap.size 52 #[.string t, .int .i64 r, .slice a6 n c6] := by rw [hw]; exact Bx.new _ _ _
      have hb : Below v14.heap.size v14 v15 := by rw [hw]; exact bnew (Below.refl _ _)
      clear hw
      clear qx3 fx3 lx3 qy1 fy1 ly1 qy2 fy2 ly2 qy3 fy3 ly3 qy4 fy4 ly4 qy5 fy5 ly5
      replace x3 := x3.keep hb
      replace y1 := y1.keep hb
      replace y2 := y2.keep hb
      replace y3 := y3.keep hb
      replace y4 := y4.keep hb
      replace y5 := y5.keep hb
      replace sl := sl.keep hb
      replace s1 := s1.keep hb
      replace s2 := s2.keep hb
      replace s3 := s3.keep hb
      replace s4 := s4.keep hb
      replace s5 := s5.keep hb
      replace s6 := s6.keep hb
      replace B := bcall B hb
      clear hb
      generalize v14.heap.size = p6 at *
      obtain ⟨qx3, fx3, lx3⟩ := x3.all
      obtain ⟨qy1, fy1, ly1⟩ := y1.all
      obtain ⟨qy2, fy2, ly2⟩ := y2.all
      obtain ⟨qy3, fy3, ly3⟩ := y3.all
      obtain ⟨qy4, fy4, ly4⟩ := y4.all
      obtain ⟨qy5, fy5, ly5⟩ := y5.all
      obtain ⟨qy6, fy6, ly6⟩ := y6.all
      go_wp2_with fail
      refine (law_sameEdits t r _ _ es _ (by rw [Hn.out]; exact hl.out) s6 sl).mono ?_
      rintro e v16 ⟨rfl, hb⟩
      clear qx3 fx3 lx3 qy1 fy1 ly1 qy2 fy2 ly2 qy3 fy3 ly3 qy4 fy4 ly4 qy5 fy5 ly5 qy6 fy6 ly6
      replace x3 := x3.keep hb
      replace y1 := y1.keep hb
      replace y2 := y2.keep hb
      replace y3 := y3.keep hb
      replace y4 := y4.keep hb
      replace y5 := y5.keep hb
      replace y6 := y6.keep hb
      replace sl := sl.keep hb
      replace s1 := s1.keep hb
      replace s2 := s2.keep hb
      replace s3 := s3.keep hb
      replace s4 := s4.keep hb
      replace s5 := s5.keep hb
      replace s6 := s6.keep hb
      replace B := bcall B hb
      clear hb
      obtain ⟨qx3, fx3, lx3⟩ := x3.all
      obtain ⟨qy1, fy1, ly1⟩ := y1.all
      obtain ⟨qy2, fy2, ly2⟩ := y2.all
      obtain ⟨qy3, fy3, ly3⟩ := y3.all
      obtain ⟨qy4, fy4, ly4⟩ := y4.all
      obtain ⟨qy5, fy5, ly5⟩ := y5.all
      obtain ⟨qy6, fy6, ly6⟩ := y6.all
      go_wp2_with fail
      go_ret
      exact ⟨rfl, B⟩
    · have ee2 : (e2 == 0) = false := by simpa using z2
      obtain ⟨qx3, fx3, lx3⟩ := x3.all
      obtain ⟨qy1, fy1, ly1⟩ := y1.all
      obtain ⟨qy2, fy2, ly2⟩ := y2.all
      obtain ⟨qy3, fy3, ly3⟩ := y3.all
      obtain ⟨qy4, fy4, ly4⟩ := y4.all
      obtain ⟨qy5, fy5, ly5⟩ := y5.all
      go_wp2_with fail
      go_ret
      exact ⟨rfl, B⟩
  · have ee1 : (e1 == 0) = false := by simpa using z1
    by_cases z2 : e2 = 0
    · subst z2
      obtain ⟨b1, b2, hl, H6⟩ := K4 rfl
      obtain ⟨qx3, fx3, lx3⟩ := x3.all
      obtain ⟨qy1, fy1, ly1⟩ := y1.all
      obtain ⟨qy2, fy2, ly2⟩ := y2.all
      obtain ⟨qy3, fy3, ly3⟩ := y3.all
      obtain ⟨qy4, fy4, ly4⟩ := y4.all
      go_wp2_with fail
      refine (H6.out _ _ s3).mono ?_
      rintro e v11 ⟨a6, c6, rfl, s6, hb⟩
      clear qx3 fx3 lx3 qy1 fy1 ly1 qy2 fy2 ly2 qy3 fy3 ly3 qy4 fy4 ly4
      replace x3 := x3.keep hb
      replace y1 := y1.keep hb
      replace y2 := y2.keep hb
      replace y3 := y3.keep hb
      replace y4 := y4.keep hb
      replace sl := sl.keep hb
      replace s1 := s1.keep hb
      replace s2 := s2.keep hb
      replace s3 := s3.keep hb
      replace s4 := s4.keep hb
      replace B := bcall B hb
      clear hb
      obtain ⟨qx3, fx3, lx3⟩ := x3.all
      obtain ⟨qy1, fy1, ly1⟩ := y1.all
      obtain ⟨qy2, fy2, ly2⟩ := y2.all
      obtain ⟨qy3, fy3, ly3⟩ := y3.all
      obtain ⟨qy4, fy4, ly4⟩ := y4.all
      go_upto_region 15 with fail
      refine name_world ?_
      intro v12 hw
      have y6 : Bx v12 v11.heap.size 52 #[.string t, .int .i64 r, .slice a6 n c6] := by rw [hw]; exact Bx.new _ _ _
      have hb : Below v11.heap.size v11 v12 := by rw [hw]; exact bnew (Below.refl _ _)
      clear hw
      clear qx3 fx3 lx3 qy1 fy1 ly1 qy2 fy2 ly2 qy3 fy3 ly3 qy4 fy4 ly4
      replace x3 := x3.keep hb
      replace y1 := y1.keep hb
      replace y2 := y2.keep hb
      replace y3 := y3.keep hb
      replace y4 := y4.keep hb
      replace sl := sl.keep hb
      replace s1 := s1.keep hb
      replace s2 := s2.keep hb
      replace s3 := s3.keep hb
      replace s4 := s4.keep hb
      replace s6 := s6.keep hb
      replace B := bcall B hb
      clear hb
      generalize v11.heap.size = p6 at *
      obtain ⟨qx3, fx3, lx3⟩ := x3.all
      obtain ⟨qy1, fy1, ly1⟩ := y1.all
      obtain ⟨qy2, fy2, ly2⟩ := y2.all
      obtain ⟨qy3, fy3, ly3⟩ := y3.all
      obtain ⟨qy4, fy4, ly4⟩ := y4.all
      obtain ⟨qy6, fy6, ly6⟩ := y6.all
      go_wp2_with fail
      refine (law_sameEdits t r _ _ es _ (by rw [Hn.out]; exact hl.out) s6 sl).mono ?_
      rintro e v13 ⟨rfl, hb⟩
      clear qx3 fx3 lx3 qy1 fy1 ly1 qy2 fy2 ly2 qy3 fy3 ly3 qy4 fy4 ly4 qy6 fy6 ly6
      replace x3 := x3.keep hb
      replace y1 := y1.keep hb
      replace y2 := y2.keep hb
      replace y3 := y3.keep hb
      replace y4 := y4.keep hb
      replace y6 := y6.keep hb
      replace sl := sl.keep hb
      replace s1 := s1.keep hb
      replace s2 := s2.keep hb
      replace s3 := s3.keep hb
      replace s4 := s4.keep hb
      replace s6 := s6.keep hb
      replace B := bcall B hb
      clear hb
      obtain ⟨qx3, fx3, lx3⟩ := x3.all
      obtain ⟨qy1, fy1, ly1⟩ := y1.all
      obtain ⟨qy2, fy2, ly2⟩ := y2.all
      obtain ⟨qy3, fy3, ly3⟩ := y3.all
      obtain ⟨qy4, fy4, ly4⟩ := y4.all
      obtain ⟨qy6, fy6, ly6⟩ := y6.all
      go_wp2_with fail
      go_ret
      exact ⟨rfl, B⟩
    · have ee2 : (e2 == 0) = false := by simpa using z2
      obtain ⟨qx3, fx3, lx3⟩ := x3.all
      obtain ⟨qy1, fy1, ly1⟩ := y1.all
      obtain ⟨qy2, fy2, ly2⟩ := y2.all
      obtain ⟨qy3, fy3, ly3⟩ := y3.all
      obtain ⟨qy4, fy4, ly4⟩ := y4.all
      go_wp2_with fail
      go_ret
      exact ⟨rfl, B⟩
end Go.Proofs.YtjicgbpnplmpbaaDoor
