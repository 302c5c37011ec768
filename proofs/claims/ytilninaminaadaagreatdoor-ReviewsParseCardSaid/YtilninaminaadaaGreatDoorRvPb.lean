/- conform's Review: replyLine. -/
import Derived.Test.YtilninaminaadaaGreatDoorRvPa
namespace Go.Proofs.YtilninaminaadaaGreatDoor
open Go.RowKit

set_option maxRecDepth 100000 in
set_option maxHeartbeats 8000000 in
theorem conform_replyLine (p : Nat) (σ : Rv) (F : Nat → Prop) (vn : Value) (m : Nat) (rv : Nat → Value) (author text : ByteArray) (W : World) (h : VO W p σ F vn m rv) (wf : Wf σ) (ha : σ.appr = []) :
    Calls Tryz.prog 60 #[.pointer (some ⟨p, 0, none⟩), .string author, .string text] W fun e w' => ∃ er, e = .returned (.int .i64 er) ∧ ((er = 0 ∧ ∃ σ', replyO σ author text = some σ' ∧ VGo W p σ' F w') ∨ (er ≠ 0 ∧ replyO σ author text = none ∧ Fr F W w')) := by
  have hlen := wf.len
  have hbx := h.bx
  have H := Lib.hid h
  by_cases h0 : σ.notes.length = 0
  · obtain ⟨a, c, rfl, _⟩ := h.row.form
    have K := Lib.hid (h.find_none (n := (σ.notes.length : Int)) (by omega))
    have hO : replyO σ author text = none := by unfold replyO; rw [if_pos h0]
    have HO := Lib.hid hO
    rw [h0] at hbx K
    clear h h0 wf hO hlen H
    obtain ⟨q, f, l⟩ := hbx.all
    go_enter Tryz.func60, Tryz.ntmps60
    go_wp2_with fail
    refine (K.out W (Below.refl _ _)).mono ?_
    rintro e w1 ⟨rfl, B⟩
    go_wp2_with fail
    go_ret
    exact ⟨_, rfl, .inr ⟨by decide, HO.out, Fr.of_below B⟩⟩
  · obtain ⟨k, hk1⟩ : ∃ k, σ.notes.length = k + 1 := ⟨σ.notes.length - 1, by omega⟩
    have hk : k < σ.notes.length := by omega
    obtain ⟨g, cap, rfl, hfind⟩ := h.find_at hlen (n := (σ.notes.length : Int)) (by omega) (by omega)
    have hnt : ntI (σ.notes.length : Int) = k := by unfold ntI; omega
    rw [hnt] at hfind
    rw [hk1] at hbx hfind
    have hki : ((k + 1 : Nat) : Int) = (k : Int) + 1 := by omega
    have K := Lib.hid hfind
    have hO := replyO_eq hk1 author text
    have HO := Lib.hid hO
    have Wf1 := Lib.hid (wf.opnS ha hk true)
    have Hk1 := Lib.hid hk1
    clear h h0 wf hO hfind hnt
    obtain ⟨q, f, l⟩ := hbx.all
    go_enter Tryz.func60, Tryz.ntmps60
    go_wp2_with fail
    refine (K.out W (Below.refl _ _)).mono ?_
    rintro e w1 ⟨rfl, B⟩
    have hx := H.out.keep B
    obtain ⟨g2, cap2, eg, hg, hfz, c0, c1, c2, c3, c4, c5, c6, c7, c8⟩ := hx.at hk
    cases eg
    have Hx := Lib.hid hx
    clear hx q f l hbx
    go_upto_region 6 with fail
    refine name_world ?_
    intro w2 hw2
    have V2 : VO w2 p (opnS σ k true) F (.slice (some ⟨g, 0, none⟩) σ.notes.length cap) m rv := by rw [hw2]; exact Hx.out.opn hk true
    have F2 : Fr F W w2 := by rw [hw2]; exact (Fr.of_below B).trans (Hx.out.opn_fr (k := k) true) (fun b hb => .inl hb)
    have hk2 : k < (opnS σ k true).notes.length := by rw [opnS_len]; exact hk
    obtain ⟨op, hop⟩ : ∃ o, o = (nAt σ.notes k).opn := ⟨_, rfl⟩
    rw [← hop] at HO ⊢
    clear hw2 c0 c1 c2 c3 c4 c5 c6 c7 c8 hfz hg hop B Hx
    obtain ⟨g3, cap3, eg, hg, hfz, c0, c1, c2, c3, c4, c5, c6, c7, c8⟩ := V2.at hk2
    rw [opnS_len] at eg
    cases eg
    have F2h := Lib.hid F2
    by_cases he : replyE (opnS σ k true) ((k : Int) + 1) author text = 0
    · have KR := Lib.hid (conform_Reply_okV p _ F _ m rv ((k : Int) + 1) author text w2 V2 Wf1.out he)
      have HE := Lib.hid he
      have hl3 : (replyS (opnS σ k true) ((k : Int) + 1) author text).notes.length = σ.notes.length := by
        simp only [replyS, modN, List.length_set, opnS]
      have HL3 := Lib.hid hl3
      clear V2 F2 he hl3
      go_wp2_with fail
      refine KR.out.mono ?_
      rintro e w3 ⟨rfl, F', m', rv', V3, F3, hs3⟩
      have hk3 : k < (replyS (opnS σ k true) ((k : Int) + 1) author text).notes.length := by rw [HL3.out]; exact hk
      clear c0 c1 c2 c3 c4 c5 c6 c7 c8 hfz hg KR
      obtain ⟨g4, cap4, eg, hg, hfz, c0, c1, c2, c3, c4, c5, c6, c7, c8⟩ := V3.at hk3
      rw [HL3.out] at eg
      cases eg
      have HV := Lib.hid (And.intro V3 (And.intro F3 hs3))
      clear V3 F3 hs3 c0 c1 c2 c3 c4 c6 c7 c8
      go_upto_region 8 with fail
      refine name_world ?_
      intro w4 hw4
      have V4 := Lib.hid (HV.out.1.opn hk3 op)
      have F4 := Lib.hid ((F2h.out.trans HV.out.2.1 (fun b e => .inl e)).trans (HV.out.1.opn_fr (k := k) op) (fun b e => by
        rcases HV.out.2.2 b e with e | e
        · exact .inl e
        · exact .inr (Nat.le_trans F2h.out.size e)))
      rw [← hw4] at V4 F4
      clear hw4 c5 hfz hg
      go_wp2_with fail
      go_ret
      refine ⟨0, rfl, .inl ⟨rfl, _, by rw [HO.out, if_neg (by rw [HE.out]; simp)], F', _, m', rv', V4.out, F4.out, fun b e => ?_⟩⟩
      rcases HV.out.2.2 b e with e | e
      · exact .inl e
      · exact .inr (Nat.le_trans F2h.out.size e)
    · have KR := Lib.hid (conform_Reply_err p _ F _ m rv ((k : Int) + 1) author text w2 V2 Wf1.out he)
      have HE := Lib.hid he
      have HV2 := Lib.hid V2
      generalize replyE (opnS σ k true) ((k : Int) + 1) author text = er at *
      clear V2 F2 he
      go_wp2_with fail
      refine KR.out.mono ?_
      rintro e w3 ⟨rfl, hb⟩
      have V3 := HV2.out.keep hb
      clear c0 c1 c2 c3 c4 c5 c6 c7 c8 hfz hg KR
      obtain ⟨g4, cap4, eg, hg, hfz, c0, c1, c2, c3, c4, c5, c6, c7, c8⟩ := V3.at hk2
      rw [opnS_len] at eg
      cases eg
      have HV := Lib.hid V3
      have Hb := Lib.hid hb
      clear V3 hb c0 c1 c2 c3 c4 c6 c7 c8
      go_upto_region 8 with fail
      refine name_world ?_
      intro w4 hw4
      have F4 := Lib.hid ((F2h.out.call Hb.out).trans (HV.out.opn_fr (k := k) op) (fun b e => .inl e))
      rw [← hw4] at F4
      clear hw4 c5 hfz hg
      go_wp2_with fail
      go_ret
      exact ⟨er, rfl, .inr ⟨HE.out, by rw [HO.out, if_pos HE.out], F4.out⟩⟩
end Go.Proofs.YtilninaminaadaaGreatDoor
