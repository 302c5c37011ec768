/- ReviewsMatch, walked: for any list of sayings the law returns true. -/
import Derived.Test.YtilninaminaadaaGreatDoorRvSa
import Derived.Test.YtilninaminaadaaGreatDoorRvPg
import Derived.Test.YtilninaminaadaaGreatDoorRvTb
namespace Go.Proofs.YtilninaminaadaaGreatDoor
open Go.RowKit

set_option maxRecDepth 100000 in
set_option maxHeartbeats 16000000 in
theorem law_ReviewsM (v : Value) (L : List SayT) (W : World) (h : SlY W v L) (E : EnvT W) : Calls Tryz.prog 3 #[v] W fun e w' => e = .returned (.bool true) ∧ Below W.heap.size W w' := by
  obtain ⟨a, c, rfl, hc, hcm, hsz, hf⟩ := h
  obtain ⟨n, hn⟩ : ∃ n, n = L.length := ⟨_, rfl⟩
  rw [← hn] at hc hf ⊢
  obtain ⟨m, hmin, hmn, hm40⟩ : ∃ m : Nat, imin (n : Int) 40 = (m : Int) ∧ m ≤ n ∧ m ≤ 40 := ⟨min n 40, by unfold imin; omega, by omega, by omega⟩
  have Hn := Lib.hid (And.intro hn hmn)
  have HF := Lib.hid hf
  have HSZ := Lib.hid hsz
  have hmc : m ≤ c := by omega
  clear hn hf hsz hmn
  go_enter Tryz.func3, Tryz.ntmps3
  go_upto_region 3 with (go_at_call 5; refine (law_landed _).mono ?_; rintro e w' ⟨rfl, rfl⟩)
  go_wp2_with fail
  refine (conform_NewReview _).mono ?_
  rintro e w1 ⟨rfl, V, b1⟩
  go_wp2_with fail
  refine (ref_NewReview _).mono ?_
  rintro e w2 ⟨rfl, R, b2⟩
  have P0 := Lib.hid (rm_start V b1 R b2)
  generalize W.heap.size + 1 = pv at *
  generalize w1.heap.size + 1 = pr at *
  clear V R b1 b2
  go_wp2_with fail
  go_loopw [21] (fun s wr => ∃ (k : Nat) (σ : Rv), k ≤ m ∧ s = .int .i64 (k : Int) ∧ Hid (RmS W pv pr k σ wr)) (fun s _ => m - (intOf s).toNat)
  case atStart => exact ⟨0, newV, by omega, rfl, P0⟩
  case round =>
    clear P0
    obtain ⟨k, σ, hk, rfl, H⟩ := hrel
    by_cases hkm : k < m
    · have hki : (k : Int) < (m : Int) := by omega
      obtain ⟨hnL, hmn⟩ := Hn.out
      have hkL : k < L.length := by omega
      rcases HF.out with h0 | ⟨b, o, rfl, hb, hat⟩
      · rw [h0] at hkL; simp at hkL
      have hs := (hat k (by omega)).keep H.out.b hb
      have hz := HSZ.out _ (show L.getD k default ∈ L by rw [List.getD_eq_getElem?_getD, List.getElem?_eq_getElem hkL]; exact List.getElem_mem hkL)
      generalize L.getD k default = s at hs hz
      obtain ⟨sk, sn, sf, ss, sa, st⟩ := s
      obtain ⟨q0, q1, q2, q3, q4, q5⟩ := hs
      dsimp only at q0 q1 q2 q3 q4 q5 hz
      have hbr : b < wr.heap.size := Nat.lt_of_lt_of_le hb H.out.b.size
      have KS := Lib.hid (fun w h => said_all W.heap.size (fun _ => False) pv pr σ ⟨sk, sn, sf, ss, sa, st⟩ w h H.out.wf hz.1 hz.2 (by have := H.out.cnt; omega) (by have := mu_appr σ; have := H.out.mu; omega))
      unfold sayV at KS
      dsimp only at KS
      clear hat hnL hmn hkL hz hb
      go_upto_region 7 with fail
      refine name_world ?_
      intro w3 hw3
      have x6 : Bx w3 wr.heap.size 29 #[.int .i64 sk, .int .i64 sn, .int .i64 sf, .string ss, .string sa, .string st] := by rw [hw3]; exact Bx.new _ _ _
      have b3 : Below wr.heap.size wr w3 := by rw [hw3]; exact bnew (Below.refl _ _)
      have P3 := Lib.hid (And.intro (H.out.pair.keep b3) (bcall H.out.b b3))
      generalize wr.heap.size = p6 at *
      clear hw3 b3 q0 q1 q2 q3 q4 q5
      obtain ⟨q6, f6, l6⟩ := x6.all
      go_wp2_with fail
      refine (KS.out _ P3.out.1).mono ?_
      rintro e w4 ⟨rfl, hp4, s4⟩
      have H4 : Hid (RmS W pv pr (k + 1) _ w4) := Lib.hid (H.out.say hp4 (P3.out.2.trans s4.1))
      clear hp4 s4 q6 f6 l6 KS
      go_wp2_with fail
      go_roundw
      case rel => exact ⟨k + 1, _, by omega, by go_num, H4⟩
      case measure => simp [intOf]; omega
    · have hke : k = m := by omega
      subst hke
      have hmu := H.out.mu
      have hwf := H.out.wf
      have htl := textS_mu hwf
      have hap := mu_appr σ
      obtain ⟨Fv, vn, mm, rv, Fr, vn', vb, va, mm', rv', V, R, hFF, hFv, hFr⟩ := H.out.pair.ex
      have hnd := nodup_of V
      obtain ⟨T, hT⟩ : ∃ T, T = ofL (textS σ) := ⟨_, rfl⟩
      have hTs : T.size ≤ 48000 := by rw [hT, ofL_size]; omega
      have hTL : toL T = textS σ := by rw [hT]; unfold toL; rw [ofL_list]
      have KT : Hid (∀ w, Below wr.heap.size wr w → Calls Tryz.prog 9 #[.pointer (some ⟨pv, 0, none⟩)] w fun e w' => e = .returned (.string T) ∧ Below w.heap.size w w') := Lib.hid (fun w hb => by
        rw [hT]; exact conform_Text pv σ Fv vn mm rv w (V.keep hb) hwf (by omega) (E.below (bcall H.out.b hb)))
      have KR : Hid (∀ w, Below wr.heap.size wr w → Calls Tryz.prog 11 #[.pointer (some ⟨pr, 0, none⟩)] w fun e w' => e = .returned (.string T) ∧ Below w.heap.size w w') := Lib.hid (fun w hb => by
        rw [hT]; exact ref_Text pr σ Fr vn' vb va mm' rv' w (R.keep hb) hwf (by omega) (E.below (bcall H.out.b hb)))
      have KP := Lib.hid (fun w E => conform_ParseReview T w E (by omega))
      have KN : Hid (∀ w, Below wr.heap.size wr w → Calls Tryz.prog 14 #[.pointer (some ⟨pr, 0, none⟩), .string ⟨#[]⟩, .bool false] w fun e w' => ∃ v, e = .returned v ∧ NtsV w' v (notesQ σ ⟨#[]⟩ false) ∧ Below w.heap.size w w') := Lib.hid (fun w hb => ref_Notes pr σ Fr vn' vb va mm' rv' ⟨#[]⟩ false w (R.keep hb) hwf)
      have KS : Hid (∀ w va vb, NtsV w va (notesQ σ ⟨#[]⟩ false) → NtsV w vb (notesQ σ ⟨#[]⟩ false) → Calls Tryz.prog 12 #[va, vb] w fun e w' => e = .returned (.bool true) ∧ Below w.heap.size w w') := Lib.hid (fun w va vb ha hb => by
        have h1 := notesQ_small hwf ⟨#[]⟩ false
        exact same_notes va vb _ w h1.1 h1.2 ha hb)
      have HB : Hid (parseP newV false noB (spl nlB T) = some (back σ) ∧ textS (back σ) = toL T) := Lib.hid ⟨by rw [hT]; exact read_back hwf hnd, by rw [hTL]; exact back_text hnd⟩
      have hself := str_self T
      have BR := Lib.hid H.out.b
      clear hT hTL V R hFF hFv hFr hwf htl hap hmu hnd
      go_wp2_with fail
      refine (KT.out _ (Below.refl _ _)).mono ?_
      rintro e w3 ⟨rfl, hb3⟩
      go_wp2_with fail
      refine (KP.out _ (E.below (bcall BR.out hb3))).mono ?_
      rintro e w4 ⟨hb4, ⟨p4, σ4, F4, vn4, m4, rv4, rfl, V4, hF4, wf4, hap4, ht4, hp4⟩ | ⟨n4, e4, rfl, hne, hno⟩⟩
      · obtain rfl : back σ = σ4 := Option.some.inj (HB.out.1.symm.trans hp4)
        have B4 : Below wr.heap.size wr w4 := bcall hb3 hb4
        have hTT : T = ofL (textS (back σ)) := by rw [ht4]; exact ofL_toL T
        have KT2 : Hid (∀ w, Below w4.heap.size w4 w → Calls Tryz.prog 9 #[.pointer (some ⟨p4, 0, none⟩)] w fun e w' => e = .returned (.string T) ∧ Below w.heap.size w w') := Lib.hid (fun w hb => by
          rw [hTT]; exact conform_Text p4 (back σ) F4 vn4 m4 rv4 w (V4.keep hb) wf4 (by omega) (E.below (bcall BR.out (bcall B4 hb))))
        have KN2 : Hid (∀ w, Below w4.heap.size w4 w → Calls Tryz.prog 13 #[.pointer (some ⟨p4, 0, none⟩), .string ⟨#[]⟩, .bool false] w fun e w' => ∃ v, e = .returned v ∧ NtsV w' v (notesQ σ ⟨#[]⟩ false) ∧ Below w.heap.size w w') := Lib.hid (fun w hb =>
          (conform_Notes p4 (back σ) F4 vn4 m4 rv4 ⟨#[]⟩ false w (V4.keep hb) wf4).mono fun e w' ⟨v, h1, h2, h3⟩ => ⟨v, h1, h2.back, h3⟩)
        have B4H := Lib.hid B4
        clear V4 hF4 wf4 hap4 ht4 hp4 hTT KP KT hb3 hb4 B4
        go_wp2_with fail
        refine (KR.out _ B4H.out).mono ?_
        rintro e w5 ⟨rfl, hb5⟩
        go_wp2_with fail
        refine (KT2.out _ hb5).mono ?_
        rintro e w6 ⟨rfl, hb6⟩
        have B6 : Below w4.heap.size w4 w6 := bcall hb5 hb6
        go_wp2_with fail
        refine (KN2.out _ B6).mono ?_
        rintro e w7 ⟨v7, rfl, hv7, hb7⟩
        have B7 : Below w4.heap.size w4 w7 := bcall B6 hb7
        go_wp2_with fail
        refine (KN.out _ (bcall B4H.out B7)).mono ?_
        rintro e w8 ⟨v8, rfl, hv8, hb8⟩
        have B8 : Below w4.heap.size w4 w8 := bcall B7 hb8
        go_wp2_with fail
        refine (KS.out _ _ _ (hv7.keep hb8) hv8).mono ?_
        rintro e w9 ⟨rfl, hb9⟩
        go_wp2_with fail
        go_ret
        exact ⟨rfl, bcall BR.out (bcall B4H.out (bcall B8 hb9))⟩
      · exact absurd HB.out.2 (hno (by omega) _ HB.out.1)
end Go.Proofs.YtilninaminaadaaGreatDoor
