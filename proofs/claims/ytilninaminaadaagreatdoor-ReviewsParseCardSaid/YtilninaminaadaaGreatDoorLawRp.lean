/- ReviewsParse, walked: for any list of sayings, any place and any text the law returns true. -/
import Derived.Test.YtilninaminaadaaGreatDoorRvSa
import Derived.Test.YtilninaminaadaaGreatDoorRvPg
import Derived.Test.YtilninaminaadaaGreatDoorBnD
namespace Go.Proofs.YtilninaminaadaaGreatDoor
open Go.RowKit

set_option maxRecDepth 100000 in
set_option maxHeartbeats 16000000 in
theorem law_ReviewsP (v : Value) (L : List SayT) (pa : Int) (wi : ByteArray) (W : World) (h : SlY W v L) (hw : wi.size ≤ 140737488351232) (E : EnvT W) : Calls Tryz.prog 4 #[v, .int .i64 pa, .string wi] W fun e w' => e = .returned (.bool true) ∧ Below W.heap.size W w' := by
  obtain ⟨a, c, rfl, hc, hcm, hsz, hf⟩ := h
  obtain ⟨n, hn⟩ : ∃ n, n = L.length := ⟨_, rfl⟩
  rw [← hn] at hc hf ⊢
  obtain ⟨m, hmin, hmn, hm20⟩ : ∃ m : Nat, imin (n : Int) 20 = (m : Int) ∧ m ≤ n ∧ m ≤ 20 := ⟨min n 20, by unfold imin; omega, by omega, by omega⟩
  have Hn := Lib.hid (And.intro hn hmn)
  have HF := Lib.hid hf
  have HSZ := Lib.hid hsz
  have hmc : m ≤ c := by omega
  clear hn hf hsz hmn
  go_enter Tryz.func4, Tryz.ntmps4
  go_upto_region 3 with (go_at_call 5; refine (law_landed _).mono ?_; rintro e w' ⟨rfl, rfl⟩)
  go_wp2_with fail
  refine (conform_NewReview _).mono ?_
  rintro e w1 ⟨rfl, V, b1⟩
  go_wp2_with fail
  refine (ref_NewReview _).mono ?_
  rintro e w2 ⟨rfl, R, b2⟩
  have P0 := Lib.hid (rm_start V b1 R b2)
  generalize W.heap.size + 1 = pv at *
  generalize w1.heap.size + 1 = pr at *
  clear V R b1 b2
  go_wp2_with fail
  go_loopw [25] (fun s wr => ∃ (k : Nat) (σ : Rv), k ≤ m ∧ s = .int .i64 (k : Int) ∧ Hid (RmS W pv pr k σ wr)) (fun s _ => m - (intOf s).toNat)
  case atStart => exact ⟨0, newV, by omega, rfl, P0⟩
  case round =>
    clear P0
    obtain ⟨k, σ, hk, rfl, H⟩ := hrel
    by_cases hkm : k < m
    · have hki : (k : Int) < (m : Int) := by omega
      obtain ⟨hnL, hmn⟩ := Hn.out
      have hkL : k < L.length := by omega
      rcases HF.out with h0 | ⟨b, o, rfl, hb, hat⟩
      · rw [h0] at hkL; simp at hkL
      have hs := (hat k (by omega)).keep H.out.b hb
      have hz := HSZ.out _ (show L.getD k default ∈ L by rw [List.getD_eq_getElem?_getD, List.getElem?_eq_getElem hkL]; exact List.getElem_mem hkL)
      generalize L.getD k default = s at hs hz
      obtain ⟨sk, sn, sf, ss, sa, st⟩ := s
      obtain ⟨q0, q1, q2, q3, q4, q5⟩ := hs
      dsimp only at q0 q1 q2 q3 q4 q5 hz
      have hbr : b < wr.heap.size := Nat.lt_of_lt_of_le hb H.out.b.size
      have KS := Lib.hid (fun w h => said_all W.heap.size (fun _ => False) pv pr σ ⟨sk, sn, sf, ss, sa, st⟩ w h H.out.wf hz.1 hz.2 (by have := H.out.cnt; omega) (by have := mu_appr σ; have := H.out.mu; omega))
      unfold sayV at KS
      dsimp only at KS
      clear hat hnL hmn hkL hz hb
      go_upto_region 7 with fail
      refine name_world ?_
      intro w3 hw3
      have x6 : Bx w3 wr.heap.size 29 #[.int .i64 sk, .int .i64 sn, .int .i64 sf, .string ss, .string sa, .string st] := by rw [hw3]; exact Bx.new _ _ _
      have b3 : Below wr.heap.size wr w3 := by rw [hw3]; exact bnew (Below.refl _ _)
      have P3 := Lib.hid (And.intro (H.out.pair.keep b3) (bcall H.out.b b3))
      generalize wr.heap.size = p6 at *
      clear hw3 b3 q0 q1 q2 q3 q4 q5
      obtain ⟨q6, f6, l6⟩ := x6.all
      go_wp2_with fail
      refine (KS.out _ P3.out.1).mono ?_
      rintro e w4 ⟨rfl, hp4, s4⟩
      have H4 : Hid (RmS W pv pr (k + 1) _ w4) := Lib.hid (H.out.say hp4 (P3.out.2.trans s4.1))
      clear hp4 s4 q6 f6 l6 KS
      go_wp2_with fail
      go_roundw
      case rel => exact ⟨k + 1, _, by omega, by go_num, H4⟩
      case measure => simp [intOf]; omega
    · have hke : k = m := by omega
      subst hke
      have hmu := H.out.mu
      have hwf := H.out.wf
      have htl := textS_mu hwf
      have hap := mu_appr σ
      obtain ⟨Fv, vn, mm, rv, Fr, vn', vb, va, mm', rv', V, R, hFF, hFv, hFr⟩ := H.out.pair.ex
      have hnd := nodup_of V
      obtain ⟨T, hT⟩ : ∃ T, T = ofL (textS σ) := ⟨_, rfl⟩
      have hTs : T.size ≤ 48000 := by rw [hT, ofL_size]; omega
      have KT : Hid (∀ w, Below wr.heap.size wr w → Calls Tryz.prog 9 #[.pointer (some ⟨pv, 0, none⟩)] w fun e w' => e = .returned (.string T) ∧ Below w.heap.size w w') := Lib.hid (fun w hb => by
        rw [hT]; exact conform_Text pv σ Fv vn mm rv w (V.keep hb) hwf (by omega) (E.below (bcall H.out.b hb)))
      have KB := Lib.hid (fun w E => law_bent T pa wi w E hTs hw)
      have BR := Lib.hid H.out.b
      clear hT V R hFF hFv hFr hwf htl hap hmu hnd
      go_wp2_with fail
      refine (KT.out _ (Below.refl _ _)).mono ?_
      rintro e w3 ⟨rfl, hb3⟩
      go_wp2_with fail
      refine (KB.out _ (E.below (bcall BR.out hb3))).mono ?_
      rintro e w4 ⟨S, rfl, hSs, hb4⟩
      have B4 : Below W.heap.size W w4 := bcall (bcall BR.out hb3) hb4
      have KP := Lib.hid (fun w E => conform_ParseReview S w E hSs)
      have hself := str_self S
      clear hb3 hb4 KT KB
      go_wp2_with fail
      refine (KP.out _ (E.below B4)).mono ?_
      rintro e w5 ⟨hb5, ⟨p5, σ5, F5, vn5, m5, rv5, rfl, V5, hF5, wf5, hap5, ht5, hp5⟩ | ⟨n5, e5, rfl, hne, hno⟩⟩
      · have B5 : Below W.heap.size W w5 := bcall B4 hb5
        have hTT : S = ofL (textS σ5) := by rw [ht5]; exact ofL_toL S
        have KT2 : Hid (∀ w, Below w5.heap.size w5 w → Calls Tryz.prog 9 #[.pointer (some ⟨p5, 0, none⟩)] w fun e w' => e = .returned (.string S) ∧ Below w.heap.size w w') := Lib.hid (fun w hb => by
          rw [hTT]; exact conform_Text p5 σ5 F5 vn5 m5 rv5 w (V5.keep hb) wf5 (by omega) (E.below (bcall B5 hb)))
        clear V5 hF5 wf5 hap5 ht5 hp5 hTT KP hb5
        go_wp2_with fail
        refine (KT2.out _ (Below.refl _ _)).mono ?_
        rintro e w6 ⟨rfl, hb6⟩
        go_wp2_with fail
        go_ret
        exact ⟨rfl, bcall B5 hb6⟩
      · have B5 : Below W.heap.size W w5 := bcall B4 hb5
        clear hno KP hb5
        go_wp2_with fail
        go_ret
        exact ⟨rfl, B5⟩
end Go.Proofs.YtilninaminaadaaGreatDoor
