/- dyeref1's Review: Notes. (printed by gen_rvq.py) -/
import Derived.Test.YtilninaminaadaaGreatDoorRvO
namespace Go.Proofs.YtilninaminaadaaGreatDoor
open Go.RowKit

set_option maxRecDepth 100000 in
set_option maxHeartbeats 16000000 in
theorem ref_Notes (p : Nat) (σ : Rv) (F : Nat → Prop) (vn vb va : Value) (m : Nat) (rv : Nat → Value) (shot : ByteArray) (op : Bool) (W : World) (h : RO W p σ F vn vb va m rv) (wf : Wf σ) :
    Calls Tryz.prog 14 #[.pointer (some ⟨p, 0, none⟩), .string shot, .bool op] W fun e w' => ∃ v, e = .returned v ∧ NtsV w' v (notesQ σ shot op) ∧ Below W.heap.size W w' := by
  have hlen := wf.len
  have Hrl : Hid (∀ k, k < σ.notes.length → (nAt σ.notes k).reps.length ≤ 100) := Lib.hid (fun k hk => (wf.notes _ (nAt_mem hk)).reps.1)
  obtain ⟨a, c, rfl, _⟩ := h.row.form
  have H := Lib.hid h
  obtain ⟨n0, hn⟩ : ∃ n, n = σ.notes.length := ⟨_, rfl⟩
  rw [← hn] at H hlen
  have Hn := Lib.hid hn
  have hbx := h.bx
  rw [← hn] at hbx
  obtain ⟨q, f, l⟩ := hbx.all
  clear h wf hn hbx
  go_enter Tryz.func14, Tryz.ntmps14
  go_wp2_with fail
  clear q f l
  go_loopw [7, 15] (fun ov i wr => ∃ k : Nat, k ≤ n0 ∧ i = .int .i64 (k : Int) ∧ Hid (NtsV wr ov (pick shot op ((numbered σ.notes).take k))) ∧ (∀ b, ov.ownBlock = some b → W.heap.size ≤ b) ∧ Below W.heap.size W wr) (fun _ i _ => n0 - (intOf i).toNat)
  case atStart => exact ⟨0, by omega, rfl, Lib.hid (NtsV.nil _), fun b hb => (by cases hb), Below.refl _ _⟩
  case round =>
    obtain ⟨k, hk, rfl, ho, hob, B⟩ := hrel
    by_cases hlt : k < n0
    · have hks : k < σ.notes.length := by rw [← Hn.out]; exact hlt
      obtain ⟨g, cap, eg, hg, hfz, c0, c1, c2, c3, c4, c5, c6⟩ := (H.out.keep B).at hks
      obtain ⟨rfl, rfl⟩ : a = some ⟨g, 0, none⟩ ∧ c = cap := by cases eg; exact ⟨rfl, rfl⟩
      have hrl := Hrl.out k hks
      have hrep := (H.out.keep B).reps k hks
      obtain ⟨ra, rc, er, _, _⟩ := hrep.form
      rw [er] at c6 hrep
      have Hrep := Lib.hid hrep
      have T := numbered_take hks
      generalize hx : nAt σ.notes k = x at *
      obtain ⟨xs, xf, xa, xt, xo, xr, xc, xd⟩ := x
      dsimp only at c0 c1 c2 c3 c4 c5 c6 hrl
      have Tk := Lib.hid T
      have hki : (k : Int) < (n0 : Int) := by omega
      obtain ⟨rl, hrl2⟩ : ∃ rl, rl = xr.length := ⟨_, rfl⟩
      rw [← hrl2] at c6 hrl
      replace Hrep : Hid (RowN wr 74 2 (.slice ra rl rc) rl (rcell xr)) := Lib.hid (by rw [hrl2]; exact Hrep.out)
      have Hrl2 := Lib.hid hrl2
      clear eg er T hx hrep hrl2
      obtain ⟨oa, oc, eo⟩ := ho.out.form
      obtain ⟨on, hon⟩ : ∃ n, n = (pick shot op ((numbered σ.notes).take k)).length := ⟨_, rfl⟩
      have honle : on ≤ 2000 := by
        have h1 : (pick shot op ((numbered σ.notes).take k)).length ≤ ((numbered σ.notes).take k).length := List.length_filter_le _ _
        rw [List.length_take] at h1
        omega
      rw [← hon] at eo
      subst eo
      have Hon := Lib.hid hon
      clear hon
      go_upto_region 5 with fail
      refine name_world ?_
      intro w3 hw3
      have x9 : Bx w3 wr.heap.size 65 #[.int .i64 ((k : Int) + 1), .string xs, .int .i64 xf, .string xa, .string xt, .bool xo, .slice ra rl rc] := by rw [hw3]; exact Bx.new _ _ _
      have b3 : Below wr.heap.size wr w3 := by rw [hw3]; exact bnew (Below.refl _ _)
      have B3 : Below W.heap.size W w3 := bcall B b3
      replace ho := Lib.hid (ho.out.keep b3)
      replace Hrep := Lib.hid (Hrep.out.keep b3)
      obtain ⟨p9, hp9⟩ : ∃ p, p = wr.heap.size := ⟨_, rfl⟩
      rw [← hp9] at x9 ⊢
      clear hw3 c0 c1 c2 c3 c4 c5 c6 hfz hg hp9 b3
      obtain ⟨q9, f9, l9⟩ := x9.all
      by_cases hp : ((decide (shot.size = 0) || decide (xs = shot)) && (xo || !op)) = true
      · have hstep : pick shot op ((numbered σ.notes).take (k + 1)) = pick shot op ((numbered σ.notes).take k) ++ [(k + 1, ⟨xs, xf, xa, xt, xo, xr, xc, xd⟩)] := by rw [Tk.out, pick_snoc, if_pos hp]
        have Hs := Lib.hid hstep
        have hcase : ((shot.toList.isEmpty = true) ∨ (shot.toList.isEmpty = false ∧ (xs.toList == shot.toList) = true)) ∧ (xo = true ∨ (xo = false ∧ op = false)) := by
          rw [text_empty, str_beq]
          exact pick_cases _ _ _ _ hp
        clear hp hstep
        rcases hcase with ⟨e0 | ⟨e0, e1⟩, rfl | ⟨rfl, rfl⟩⟩
        · obtain ⟨rvo, hro, hrr⟩ := ho.out
          rw [← Hon.out] at hro hrr
          have Hrr := Lib.hid (And.intro hrr (And.intro Hrep.out hro.typed))
          have hro6b := hro.keep (bnew (Below.refl _ _) (ob := .cells (nt7 ((k : Int) + 1) ⟨xs, xf, xa, xt, true, xr, xc, xd⟩ (.slice ra rl rc)).toArray 65))
          clear hro hrr
          have hby := mul_lt honle
          go_wp2_with (at_builtin; refine rowN_append (news := nt7 ((k : Int) + 1) ⟨xs, xf, xa, xt, true, xr, xc, xd⟩ (.slice ra rl rc)) infoNt Tryz.underlying36 rfl (by decide) rfl (.tmp 35) (.tmp 37) rfl rfl w3.heap.size rfl hro6b (Bx.new _ _ _) rfl (nt7_one _ _ _ _ _) hby (by omega) ?_)
          intro g' cap' w7 hrow7 hgrow hat hlt7
          have HX := Lib.hid (And.intro hrow7 (And.intro hgrow hat))
          have hst : (on + 1 : Nat) = (pick shot op ((numbered σ.notes).take (k + 1))).length := by rw [Hs.out, List.length_append, ← Hon.out]; rfl
          have Hst := Lib.hid hst
          clear hrow7 hgrow hat hlt7 q9 f9 l9 hro6b hst hby
          go_wp2_with fail
          go_roundw
          case rel =>
            obtain ⟨hrow7, hgrow, hat⟩ := HX.out
            obtain ⟨hrr6, hr6, htyp⟩ := Hrr.out
            have hB6s := B3.size
            refine ⟨k + 1, by omega, by go_num, Lib.hid ?_, ?_, ?_⟩
            · rw [Hs.out]
              have e1 := Hon.out
              subst e1
              refine NtsV.more (w := w3) (rv := rvo) (num := (k : Int) + 1) (by omega) hrr6 (by rw [← Hrl2.out]; exact hr6) hrow7 ?_
              intro b hb hcur
              rw [hgrow.block b (by simp; omega) ?_]
              · exact Below.heap_alloc _ _ _ hb
              · intro e
                rcases hcur with ⟨cur, hc⟩
                obtain ⟨cur2, hc2⟩ := htyp b e.symm
                exact types_ne hc hc2 (by decide) rfl
            · intro b hb
              simp only [Value.ownBlock, Option.some.injEq] at hb
              subst hb
              rcases hat with e | e
              · exact hob _ e
              · omega
            · exact (bnew B3).grown hgrow (by simp; omega) (fun b hb => hob b hb)
          case measure => simp [intOf]; omega
        · obtain ⟨rvo, hro, hrr⟩ := ho.out
          rw [← Hon.out] at hro hrr
          have Hrr := Lib.hid (And.intro hrr (And.intro Hrep.out hro.typed))
          have hro6b := hro.keep (bnew (Below.refl _ _) (ob := .cells (nt7 ((k : Int) + 1) ⟨xs, xf, xa, xt, false, xr, xc, xd⟩ (.slice ra rl rc)).toArray 65))
          clear hro hrr
          have hby := mul_lt honle
          go_wp2_with (at_builtin; refine rowN_append (news := nt7 ((k : Int) + 1) ⟨xs, xf, xa, xt, false, xr, xc, xd⟩ (.slice ra rl rc)) infoNt Tryz.underlying36 rfl (by decide) rfl (.tmp 35) (.tmp 37) rfl rfl w3.heap.size rfl hro6b (Bx.new _ _ _) rfl (nt7_one _ _ _ _ _) hby (by omega) ?_)
          intro g' cap' w7 hrow7 hgrow hat hlt7
          have HX := Lib.hid (And.intro hrow7 (And.intro hgrow hat))
          have hst : (on + 1 : Nat) = (pick shot false ((numbered σ.notes).take (k + 1))).length := by rw [Hs.out, List.length_append, ← Hon.out]; rfl
          have Hst := Lib.hid hst
          clear hrow7 hgrow hat hlt7 q9 f9 l9 hro6b hst hby
          go_wp2_with fail
          go_roundw
          case rel =>
            obtain ⟨hrow7, hgrow, hat⟩ := HX.out
            obtain ⟨hrr6, hr6, htyp⟩ := Hrr.out
            have hB6s := B3.size
            refine ⟨k + 1, by omega, by go_num, Lib.hid ?_, ?_, ?_⟩
            · rw [Hs.out]
              have e1 := Hon.out
              subst e1
              refine NtsV.more (w := w3) (rv := rvo) (num := (k : Int) + 1) (by omega) hrr6 (by rw [← Hrl2.out]; exact hr6) hrow7 ?_
              intro b hb hcur
              rw [hgrow.block b (by simp; omega) ?_]
              · exact Below.heap_alloc _ _ _ hb
              · intro e
                rcases hcur with ⟨cur, hc⟩
                obtain ⟨cur2, hc2⟩ := htyp b e.symm
                exact types_ne hc hc2 (by decide) rfl
            · intro b hb
              simp only [Value.ownBlock, Option.some.injEq] at hb
              subst hb
              rcases hat with e | e
              · exact hob _ e
              · omega
            · exact (bnew B3).grown hgrow (by simp; omega) (fun b hb => hob b hb)
          case measure => simp [intOf]; omega
        · obtain ⟨rvo, hro, hrr⟩ := ho.out
          rw [← Hon.out] at hro hrr
          have Hrr := Lib.hid (And.intro hrr (And.intro Hrep.out hro.typed))
          have hro6b := hro.keep (bnew (Below.refl _ _) (ob := .cells (nt7 ((k : Int) + 1) ⟨xs, xf, xa, xt, true, xr, xc, xd⟩ (.slice ra rl rc)).toArray 65))
          clear hro hrr
          have hby := mul_lt honle
          go_wp2_with (at_builtin; refine rowN_append (news := nt7 ((k : Int) + 1) ⟨xs, xf, xa, xt, true, xr, xc, xd⟩ (.slice ra rl rc)) infoNt Tryz.underlying36 rfl (by decide) rfl (.tmp 35) (.tmp 37) rfl rfl w3.heap.size rfl hro6b (Bx.new _ _ _) rfl (nt7_one _ _ _ _ _) hby (by omega) ?_)
          intro g' cap' w7 hrow7 hgrow hat hlt7
          have HX := Lib.hid (And.intro hrow7 (And.intro hgrow hat))
          have hst : (on + 1 : Nat) = (pick shot op ((numbered σ.notes).take (k + 1))).length := by rw [Hs.out, List.length_append, ← Hon.out]; rfl
          have Hst := Lib.hid hst
          clear hrow7 hgrow hat hlt7 q9 f9 l9 hro6b hst hby
          go_wp2_with fail
          go_roundw
          case rel =>
            obtain ⟨hrow7, hgrow, hat⟩ := HX.out
            obtain ⟨hrr6, hr6, htyp⟩ := Hrr.out
            have hB6s := B3.size
            refine ⟨k + 1, by omega, by go_num, Lib.hid ?_, ?_, ?_⟩
            · rw [Hs.out]
              have e1 := Hon.out
              subst e1
              refine NtsV.more (w := w3) (rv := rvo) (num := (k : Int) + 1) (by omega) hrr6 (by rw [← Hrl2.out]; exact hr6) hrow7 ?_
              intro b hb hcur
              rw [hgrow.block b (by simp; omega) ?_]
              · exact Below.heap_alloc _ _ _ hb
              · intro e
                rcases hcur with ⟨cur, hc⟩
                obtain ⟨cur2, hc2⟩ := htyp b e.symm
                exact types_ne hc hc2 (by decide) rfl
            · intro b hb
              simp only [Value.ownBlock, Option.some.injEq] at hb
              subst hb
              rcases hat with e | e
              · exact hob _ e
              · omega
            · exact (bnew B3).grown hgrow (by simp; omega) (fun b hb => hob b hb)
          case measure => simp [intOf]; omega
        · obtain ⟨rvo, hro, hrr⟩ := ho.out
          rw [← Hon.out] at hro hrr
          have Hrr := Lib.hid (And.intro hrr (And.intro Hrep.out hro.typed))
          have hro6b := hro.keep (bnew (Below.refl _ _) (ob := .cells (nt7 ((k : Int) + 1) ⟨xs, xf, xa, xt, false, xr, xc, xd⟩ (.slice ra rl rc)).toArray 65))
          clear hro hrr
          have hby := mul_lt honle
          go_wp2_with (at_builtin; refine rowN_append (news := nt7 ((k : Int) + 1) ⟨xs, xf, xa, xt, false, xr, xc, xd⟩ (.slice ra rl rc)) infoNt Tryz.underlying36 rfl (by decide) rfl (.tmp 35) (.tmp 37) rfl rfl w3.heap.size rfl hro6b (Bx.new _ _ _) rfl (nt7_one _ _ _ _ _) hby (by omega) ?_)
          intro g' cap' w7 hrow7 hgrow hat hlt7
          have HX := Lib.hid (And.intro hrow7 (And.intro hgrow hat))
          have hst : (on + 1 : Nat) = (pick shot false ((numbered σ.notes).take (k + 1))).length := by rw [Hs.out, List.length_append, ← Hon.out]; rfl
          have Hst := Lib.hid hst
          clear hrow7 hgrow hat hlt7 q9 f9 l9 hro6b hst hby
          go_wp2_with fail
          go_roundw
          case rel =>
            obtain ⟨hrow7, hgrow, hat⟩ := HX.out
            obtain ⟨hrr6, hr6, htyp⟩ := Hrr.out
            have hB6s := B3.size
            refine ⟨k + 1, by omega, by go_num, Lib.hid ?_, ?_, ?_⟩
            · rw [Hs.out]
              have e1 := Hon.out
              subst e1
              refine NtsV.more (w := w3) (rv := rvo) (num := (k : Int) + 1) (by omega) hrr6 (by rw [← Hrl2.out]; exact hr6) hrow7 ?_
              intro b hb hcur
              rw [hgrow.block b (by simp; omega) ?_]
              · exact Below.heap_alloc _ _ _ hb
              · intro e
                rcases hcur with ⟨cur, hc⟩
                obtain ⟨cur2, hc2⟩ := htyp b e.symm
                exact types_ne hc hc2 (by decide) rfl
            · intro b hb
              simp only [Value.ownBlock, Option.some.injEq] at hb
              subst hb
              rcases hat with e | e
              · exact hob _ e
              · omega
            · exact (bnew B3).grown hgrow (by simp; omega) (fun b hb => hob b hb)
          case measure => simp [intOf]; omega
      · have hstep : pick shot op ((numbered σ.notes).take (k + 1)) = pick shot op ((numbered σ.notes).take k) := by rw [Tk.out, pick_snoc, if_neg hp, List.append_nil]
        have Hs := Lib.hid hstep
        have hcase : (shot.toList.isEmpty = false ∧ (xs.toList == shot.toList) = false) ∨ (shot.toList.isEmpty = true ∧ xo = false ∧ op = true) ∨ (shot.toList.isEmpty = false ∧ (xs.toList == shot.toList) = true ∧ xo = false ∧ op = true) := by
          rw [text_empty, str_beq]
          exact pick_none _ _ _ _ hp
        clear hp hstep
        rcases hcase with ⟨e0, e1⟩ | ⟨e0, rfl, rfl⟩ | ⟨e0, e1, rfl, rfl⟩
        all_goals
          go_wp2_with fail
          go_roundw
          case rel => exact ⟨k + 1, by omega, by go_num, Lib.hid (by rw [Hs.out]; exact ho.out), hob, B3⟩
          case measure => simp [intOf]; omega
    · obtain rfl : k = n0 := by omega
      have htk : (numbered σ.notes).take k = numbered σ.notes := by rw [Hn.out, ← numbered_len, List.take_length]
      have hz := ho.out
      rw [htk] at hz
      have Hz := Lib.hid hz
      clear hz htk ho
      go_wp2_with fail
      go_ret
      exact ⟨_, rfl, Hz.out, B⟩
end Go.Proofs.YtilninaminaadaaGreatDoor
