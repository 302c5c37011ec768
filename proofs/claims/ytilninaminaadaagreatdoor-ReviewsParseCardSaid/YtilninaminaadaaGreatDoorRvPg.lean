/- conform.ParseReview. -/
import Derived.Test.YtilninaminaadaaGreatDoorRvPf
import Derived.Test.YtilninaminaadaaGreatDoorRvTa
namespace Go.Proofs.YtilninaminaadaaGreatDoor
open Go.RowKit

/-- The reading under way. -/
structure PS (W : World) (t : ByteArray) (pv gl : Nat) (ap : Bool) (last T : ByteArray) (k : Int) (σ : Rv) (w : World) : Prop where
  x : Bx w gl 78 #[.string T, .int .i64 k]
  v : ∃ F vn m rv, VO w pv σ F vn m rv ∧ (∀ b, F b → W.heap.size ≤ b) ∧ ¬ F gl
  b : Below W.heap.size W w
  gw : W.heap.size ≤ gl
  wf : Wf σ
  hap : ap = false → σ.appr = []
  cnt : σ.appr.length + T.size ≤ t.size
  k0 : -1 ≤ k
  k1 : k + T.size ≤ 1048576
  p : parseP σ ap last (spl nlB T) = parseP newV false noB (spl nlB t)
/-- What ParseReview answers. -/
def ParseR (W : World) (t : ByteArray) (e : Ending) (w' : World) : Prop := Below W.heap.size W w' ∧
  ((∃ pv σ F vn m rv, e = .returned (.tuple #[.pointer (some ⟨pv, 0, none⟩), .int .i64 0, .int .i64 0]) ∧ VO w' pv σ F vn m rv ∧ (∀ b, F b → W.heap.size ≤ b) ∧ Wf σ ∧ σ.appr.length ≤ 1048576 ∧ textS σ = toL t ∧ parseP newV false noB (spl nlB t) = some σ) ∨
  (∃ n er, e = .returned (.tuple #[.pointer none, .int .i64 n, .int .i64 er]) ∧ er ≠ 0 ∧ (t.size ≤ 1048576 → ∀ σ, parseP newV false noB (spl nlB t) = some σ → textS σ ≠ toL t)))
theorem isE (T : ByteArray) : T.toList.isEmpty = decide (T = noB) := by
  rw [emptyL, Bool.eq_iff_iff, decide_eq_true_iff, decide_eq_true_iff]
  constructor
  · intro h
    apply ByteArray.ext
    apply Array.toList_inj.1
    rw [Lib.size_eq] at h
    rw [List.eq_nil_of_length_eq_zero h]; rfl
  · rintro rfl; rfl
theorem spl_noB : spl nlB noB = [noB] := spl_miss (by decide)
theorem spl_cons1 (T : ByteArray) : ∃ m r, spl nlB T = m :: r := by
  have h := spl_pos (sep := nlB) (s := T) (by decide)
  cases e : spl nlB T with
  | nil => rw [e] at h; simp at h
  | cons m r => exact ⟨m, r, rfl⟩
set_option maxRecDepth 100000 in
set_option maxHeartbeats 16000000 in
theorem conform_ParseReview (t : ByteArray) (W : World) (E : EnvT W) (hts : t.size ≤ 9223372036854775807) : Calls Tryz.prog 10 #[.string t] W (ParseR W t) := by
  by_cases hbig : 1048576 < t.size
  · have hb : (1048576 : Int) < (t.size : Int) := by omega
    go_enter Tryz.func10, Tryz.ntmps10
    go_wp2_with fail
    go_ret3
    exact ⟨Below.refl _ _, .inr ⟨0, 4, rfl, by decide, fun h => by omega⟩⟩
  · have hb : decide ((1048576 : Int) < (t.size : Int)) = false := decide_eq_false (by omega)
    go_enter Tryz.func10, Tryz.ntmps10
    go_wp2_with fail
    refine (conform_NewReview _).mono ?_
    rintro e w1 ⟨rfl, hv, hb1⟩
    have hpw : W.heap.size ≤ W.heap.size + 1 := by omega
    generalize W.heap.size + 1 = pv at hv hpw ⊢
    go_upto_region 5 with fail
    refine name_world ?_
    intro w2 hw2
    have P0 : PS W t pv w1.heap.size false noB t (-1) newV w2 := by
      have b2 : Below w1.heap.size w1 w2 := by rw [hw2]; exact bnew (Below.refl _ _)
      exact ⟨by rw [hw2]; exact Bx.new _ _ _, ⟨_, _, _, _, hv.keep b2, fun b hb => by rcases hb with h | h <;> omega, fun hF => by have := hv.flt _ hF; omega⟩, bcall hb1 b2, hb1.size, Wf.new, fun _ => rfl, by simp [newV], by omega, by omega, rfl⟩
    have HP := Lib.hid P0
    generalize w1.heap.size = gl at *
    clear hw2 hv hb1 P0 hpw
    go_wp2_with fail
    go_loopw [7, 8] (fun av lv wr => ∃ (ap : Bool) (last T : ByteArray) (k : Int) (σ : Rv), av = .bool ap ∧ lv = .string last ∧ Hid (PS W t pv gl ap last T k σ wr)) (fun _ _ wr => match wr.cell? ⟨gl, 0, none⟩ with | some (.string T) => T.size | _ => 0)
    case atStart => exact ⟨false, noB, t, -1, newV, rfl, rfl, HP⟩
    case round =>
      clear HP
      obtain ⟨ap, last, T, k, σ, rfl, rfl, hP⟩ := hrel
      have hx := hP.out.x
      obtain ⟨q, f, l⟩ := hx.all
      by_cases hT : T = noB
      · have he : T.toList.isEmpty = true := by rw [isE]; exact decide_eq_true hT
        obtain ⟨F, vn, m, rv, V, hF, hgF⟩ := hP.out.v
        have hal := hP.out.cnt
        have KT := Lib.hid (conform_Text pv σ F vn m rv wr V hP.out.wf (by omega) (E.below hP.out.b))
        have HV := Lib.hid (And.intro V (And.intro hF hgF))
        have HPP : Hid (parseP newV false noB (spl nlB t) = some σ) := Lib.hid (by
          rw [← hP.out.p, hT, spl_noB]; simp [parseP])
        clear V hF hgF hT
        by_cases htx : textS σ = toL t
        · have htt : ofL (textS σ) = t := by rw [htx]; exact (ofL_toL t).symm
          have hcmp : (t.toList == t.toList) = true := by simp
          rw [htt] at KT
          clear htt
          go_wp2_with fail
          refine KT.out.mono ?_
          rintro e w3 ⟨rfl, hb3⟩
          go_wp2_with fail
          go_ret3
          exact ⟨bcall hP.out.b hb3, .inl ⟨pv, σ, _, _, _, _, rfl, HV.out.1.keep hb3, HV.out.2.1, hP.out.wf, by omega, htx, HPP.out⟩⟩
        · have hne : ofL (textS σ) ≠ t := fun e => htx (by rw [← e]; unfold toL; rw [ofL_list])
          have hcmp : ((ofL (textS σ)).toList == t.toList) = false := by
            rw [str_beq, decide_eq_false_iff_not]; exact hne
          obtain ⟨X, hX⟩ : ∃ X, X = ofL (textS σ) := ⟨_, rfl⟩
          rw [← hX] at KT hcmp
          have HTX := Lib.hid htx
          have hkw : IntKind.i64.wrap (k + 1) = k + 1 := by
            have := hP.out.k0
            have := hP.out.k1
            rw [IntKind.wrap_i64]; omega
          clear hX hne htx
          go_wp2_with fail
          refine KT.out.mono ?_
          rintro e w3 ⟨rfl, hb3⟩
          have B3 := bcall hP.out.b hb3
          have hx3 := hx.keep hb3
          clear q f l KT hb3
          obtain ⟨q, f, l⟩ := hx3.all
          go_wp2_with fail
          go_quiet (fail)
          go_wp2_with fail
          go_ret3
          refine ⟨below_drewN B3 _, .inr ⟨_, 9, rfl, by decide, fun _ τ hτ => ?_⟩⟩
          rw [HPP.out] at hτ
          cases hτ
          exact HTX.out
      · have he : T.toList.isEmpty = false := by rw [isE]; exact decide_eq_false hT
        obtain ⟨F, vn, m, rv, V, hF, hgF⟩ := hP.out.v
        have hcnt := hP.out.cnt
        have KN := Lib.hid (lines_next gl T k wr (E.below hP.out.b) hx (by omega) hP.out.k0 (by have := hP.out.k1; omega))
        have HV := Lib.hid (And.intro V (And.intro hF hgF))
        rcases cutR_hit hT with ⟨c1, c2⟩ | ⟨s, T', c1, c2, c3, c4⟩
        · rw [c2] at KN
          have HPP : Hid (parseP newV false noB (spl nlB t) = none) := Lib.hid (by
            rw [← hP.out.p, c1]; simp [parseP, hT])
          have hgw := hP.out.gw
          clear c1 c2 V hF hgF hT
          go_wp2_with fail
          refine KN.out.mono ?_
          rintro e w3 ⟨rfl, x3, fr⟩
          have B3 : Below W.heap.size W w3 := hP.out.b.trans (fr.below (fun b e => by omega) hP.out.b.size)
          clear q f l KN fr
          obtain ⟨q, f, l⟩ := x3.all
          go_wp2_with fail
          go_quiet (fail)
          go_wp2_with fail
          go_ret3
          refine ⟨below_drewN B3 _, .inr ⟨_, 9, rfl, by decide, fun _ τ hτ => ?_⟩⟩
          rw [HPP.out] at hτ
          cases hτ
        · rw [c1] at KN
          obtain ⟨m0, r0, hmr⟩ := spl_cons1 T'
          have HPP : Hid (parseP newV false noB (spl nlB t) = parseP σ ap last (s :: spl nlB T')) := Lib.hid (by rw [← hP.out.p, c2])
          have hgw := hP.out.gw
          have hss : s.size ≤ 1048576 := by omega
          have HC4 := Lib.hid c4
          have Hmr := Lib.hid hmr
          clear c1 c2 V hF hgF hT c4 c3 hmr
          go_wp2_with fail
          refine KN.out.mono ?_
          rintro e w3 ⟨rfl, x3, fr⟩
          have B3 : Below W.heap.size W w3 := hP.out.b.trans (fr.below (fun b e => by omega) hP.out.b.size)
          have V3 : VO w3 pv σ F vn m rv := HV.out.1.lift fr.size fun b hb => fr.block b (HV.out.1.flt b hb) (fun e => HV.out.2.2 (e ▸ hb))
          have KL := Lib.hid (conform_line pv σ F vn m rv s ap last w3 V3 hP.out.wf (E.below B3) hss hP.out.hap (by omega))
          have HB3 := Lib.hid B3
          clear q f l KN fr V3 B3
          obtain ⟨q, f, l⟩ := x3.all
          go_wp2_with fail
          refine KL.out.mono ?_
          rintro e w4 ⟨sh, er, rfl, ⟨rfl, τ, ho, F', vn', m', rv', V4, fr4, hF4⟩ | ⟨hne, ho, fr4⟩⟩
          · have hok := lineO_ok hP.out.wf hP.out.hap ho
            have hP2 : parseP newV false noB (spl nlB t) = if sh.size = 0 then parseP τ ap last (spl nlB T') else parseP τ true sh (spl nlB T') := by
              rw [HPP.out, Hmr.out, parseP, ho]
            have hgF4 : ¬ F' gl := fun e => by
              rcases hF4 gl e with e | e
              · exact HV.out.2.2 e
              · omega
            have hF4' : ∀ b, F' b → W.heap.size ≤ b := fun b e => by
              rcases hF4 b e with e | e
              · exact HV.out.2.1 b e
              · have := HB3.out.size; omega
            have x4 : Bx w4 gl 78 #[.string T', .int .i64 (k + 1)] := by
              unfold Bx
              rw [fr4.block gl l HV.out.2.2]; exact x3
            have B4 : Below W.heap.size W w4 := HB3.out.trans (fr4.below HV.out.2.1 HB3.out.size)
            have h0 := hP.out.k0
            have h1 := hP.out.k1
            have h4 := HC4.out
            have HX : Hid (PS W t pv gl (if sh.size = 0 then ap else true) (if sh.size = 0 then last else sh) T' (k + 1) τ w4) := Lib.hid (by
              refine ⟨x4, ⟨F', vn', m', rv', V4, hF4', hgF4⟩, B4, hgw, hok.1, fun ha => ?_, ?_, by omega, by omega, ?_⟩
              · have h2 := hok.2
                by_cases hz : sh.size = 0
                · rw [if_pos hz] at h2; exact h2
                · rw [if_neg hz] at ha; cases ha
              · have h2 := hok.2
                by_cases hz : sh.size = 0
                · rw [if_pos hz] at h2; rw [h2, List.length_nil]; omega
                · rw [if_neg hz] at h2; omega
              · rw [hP2]
                by_cases hz : sh.size = 0
                · rw [if_pos hz, if_pos hz, if_pos hz]
                · rw [if_neg hz, if_neg hz, if_neg hz])
            have hes := emptyL sh
            have hc0 : wr.cell? ⟨gl, 0, none⟩ = some (.string T) := hx.all.1 0
            have hc4 : w4.cell? ⟨gl, 0, none⟩ = some (.string T') := x4.all.1 0
            have HC := Lib.hid (And.intro hc0 (And.intro hc4 h4))
            clear hok hP2 hgF4 hF4' x4 B4 h0 h1 h4 hc0 hc4 KL q f l x3 ho V4 fr4 hF4 hcnt hx
            by_cases hz : sh.size = 0
            · rw [decide_eq_true hz] at hes
              rw [if_pos hz, if_pos hz] at HX
              clear hz
              go_wp2_with fail
              go_roundw
              case rel => exact ⟨ap, last, T', k + 1, τ, rfl, rfl, HX⟩
              case measure => rw [HC.out.1, HC.out.2.1]; exact HC.out.2.2
            · rw [decide_eq_false hz] at hes
              rw [if_neg hz, if_neg hz] at HX
              clear hz
              go_wp2_with fail
              go_roundw
              case rel => exact ⟨true, sh, T', k + 1, τ, rfl, rfl, HX⟩
              case measure => rw [HC.out.1, HC.out.2.1]; exact HC.out.2.2
          · have x4 : Bx w4 gl 78 #[.string T', .int .i64 (k + 1)] := by
              unfold Bx
              rw [fr4.block gl l HV.out.2.2]; exact x3
            have B4 : Below W.heap.size W w4 := HB3.out.trans (fr4.below HV.out.2.1 HB3.out.size)
            have hnone : Hid (parseP newV false noB (spl nlB t) = none) := Lib.hid (by
              rw [HPP.out, Hmr.out, parseP, ho])
            clear KL q f l x3 ho fr4
            obtain ⟨q, f, l⟩ := x4.all
            go_wp2_with fail
            go_quiet (fail)
            go_wp2_with fail
            go_ret3
            refine ⟨below_drewN B4 _, .inr ⟨_, er, rfl, hne, fun _ τ hτ => ?_⟩⟩
            rw [hnone.out] at hτ
            cases hτ
end Go.Proofs.YtilninaminaadaaGreatDoor
