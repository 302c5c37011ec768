/- dyeref1's Review: Open, Approve, Notes. (printed by gen_rvo.py) -/
import Derived.Test.YtilninaminaadaaGreatDoorRvN
namespace Go.Proofs.YtilninaminaadaaGreatDoor
open Go.RowKit

set_option maxRecDepth 100000 in
set_option maxHeartbeats 8000000 in
theorem ref_Open_err (p : Nat) (σ : Rv) (F : Nat → Prop) (vn vb va : Value) (m : Nat) (rv : Nat → Value) (n : Int) (author : ByteArray) (W : World) (h : RO W p σ F vn vb va m rv) (wf : Wf σ) (he : openE σ n author ≠ 0) :
    Calls Tryz.prog 24 #[.pointer (some ⟨p, 0, none⟩), .int .i64 n, .string author] W fun e w' => e = .returned (.int .i64 (openE σ n author)) ∧ Below W.heap.size W w' := by
  unfold openE at he ⊢
  have hlen := wf.len
  by_cases h1 : n < 1 ∨ (σ.notes.length : Int) < n
  · have e1 : ntE σ n author = 11 := by unfold ntE; rw [if_pos h1]
    rw [e1, if_pos (by decide)]
    have K := Lib.hid (h.at_none author h1)
    clear he h wf e1 h1
    go_enter Tryz.func24, Tryz.ntmps24
    go_wp2_with fail
    refine (K.out W (Below.refl _ _)).mono ?_
    rintro e w1 ⟨rfl, B⟩
    go_wp2_with fail
    go_ret
    exact ⟨rfl, B⟩
  have h11 : 1 ≤ n := by omega
  have h12 : n ≤ σ.notes.length := by omega
  obtain ⟨g, cap, rfl, hfind⟩ := h.at_at hlen author h11 h12
  by_cases h2 : nameB author = false
  · have e1 : ntE σ n author = 6 := by unfold ntE; rw [if_neg h1, if_pos h2]
    rw [e1, if_pos (by decide)]
    rw [if_pos h2] at hfind
    have K := Lib.hid hfind
    clear he h wf e1 h1 h11 h12 hfind
    go_enter Tryz.func24, Tryz.ntmps24
    go_wp2_with fail
    refine (K.out W (Below.refl _ _)).mono ?_
    rintro e w1 ⟨rfl, B⟩
    go_wp2_with fail
    go_ret
    exact ⟨rfl, B⟩
  replace h2 : nameB author = true := by simpa using h2
  rw [if_neg (by rw [h2]; simp)] at hfind
  have K := Lib.hid hfind
  clear hfind
  have e1 : ntE σ n author = 0 := by unfold ntE; rw [if_neg h1, if_neg (by rw [h2]; simp)]
  rw [e1, if_neg (by decide)] at he ⊢
  clear e1
  have hk : ntI n < σ.notes.length := by unfold ntI; omega
  have hxx : ntA σ n = nAt σ.notes (ntI n) := rfl
  rw [hxx] at he ⊢
  clear hxx
  have H := Lib.hid h
  generalize ntI n = k at *
  by_cases h6 : (nAt σ.notes k).opn = true
  · rw [if_pos h6]
    have Ho := Lib.hid h6
    clear he h wf h1 h11 h12 h6
    go_enter Tryz.func24, Tryz.ntmps24
    go_wp2_with fail
    refine (K.out W (Below.refl _ _)).mono ?_
    rintro e w1 ⟨rfl, B⟩
    have hx := H.out.keep B
    obtain ⟨g2, cap2, eg, hg, hfz, c0, c1, c2, c3, c4, c5, c6⟩ := hx.at hk
    cases eg
    rw [Ho.out] at c5
    clear c0 c1 c2 c3 c4 c6 hx
    go_wp2_with fail
    go_ret
    exact ⟨rfl, B⟩
  rw [if_neg h6] at he
  exact absurd rfl he

set_option maxRecDepth 100000 in
set_option maxHeartbeats 16000000 in
theorem ref_Open_ok (p : Nat) (σ : Rv) (F : Nat → Prop) (vn vb va : Value) (m : Nat) (rv : Nat → Value) (n : Int) (author : ByteArray) (W : World) (h : RO W p σ F vn vb va m rv) (wf : Wf σ) (he : openE σ n author = 0) :
    Calls Tryz.prog 24 #[.pointer (some ⟨p, 0, none⟩), .int .i64 n, .string author] W fun e w' => e = .returned (.int .i64 0) ∧ RGo W p (openS σ n) F w' := by
  unfold openE at he
  have hlen := wf.len
  split at he; · exact absurd he ‹_›
  rename_i h0
  obtain ⟨h11, h12, hk, h2, _, hwf⟩ := wf.at (by simpa using h0)
  split at he; · cases he
  rename_i h6
  have Ho : Hid ((nAt σ.notes (ntI n)).opn = false) := Lib.hid (by have h6 : ¬ (nAt σ.notes (ntI n)).opn = true := h6; simpa using h6)
  have hss : (nAt σ.notes (ntI n)).shot.size ≤ 40 := (name_sz hwf.shot).2
  obtain ⟨g, cap, rfl, hfind⟩ := h.at_at hlen author h11 h12
  rw [if_neg (by rw [h2]; simp)] at hfind
  have K := Lib.hid hfind
  have H := Lib.hid h
  show Calls _ _ _ W fun e w' => e = .returned (.int .i64 0) ∧ RGo W p ⟨σ.notes.set (ntI n) { nAt σ.notes (ntI n) with opn := true }, delA σ.appr (nAt σ.notes (ntI n)).shot, σ.count⟩ F w'
  obtain ⟨k, hkn⟩ : ∃ k, k = ntI n := ⟨_, rfl⟩
  rw [← hkn] at hk Ho hss K ⊢
  clear he h wf h11 h12 h6 hfind h0 hkn hwf
  go_enter Tryz.func24, Tryz.ntmps24
  go_wp2_with fail
  refine (K.out W (Below.refl _ _)).mono ?_
  rintro e w1 ⟨rfl, B⟩
  have hx := H.out.keep B
  obtain ⟨g2, cap2, eg, hg, hfz, c0, c1, c2, c3, c4, c5, c6⟩ := hx.at hk
  cases eg
  rw [Ho.out] at c5
  obtain ⟨xs, hxs⟩ : ∃ xs, xs = (nAt σ.notes k).shot := ⟨_, rfl⟩
  rw [← hxs] at c1 hss
  have Hxs := Lib.hid hxs
  clear c0 c2 c3 c4 c6 hxs
  have Hx := Lib.hid hx
  obtain ⟨hpm, hn1, hn2, hn3, hn4⟩ := hx.nes
  have hgp := hn1 g rfl
  have Hn4 := Lib.hid (And.intro hn2 (And.intro hn3 hn4))
  clear hx hn1 hn2 hn3 hn4
  go_upto_region 7 with fail
  refine name_world ?_
  intro w3 hw3
  have on : Only g w1 w3 := by rw [hw3]; exact (Only.refl g w1).set _ _
  have row3 := Hx.out.row.set k 5 hk (by omega) (.bool true)
  rw [← hw3] at row3
  have Row3 := Lib.hid row3
  have d1 : w3.cell? ⟨g, k * 7 + 1, none⟩ = some (.string xs) := by
    obtain ⟨g3, cap3, e3, _, _, _, hc, _⟩ := row3.open (by omega)
    cases e3
    rw [hc k 1 hk (by omega), if_neg (by omega), Hxs.out]
    rfl
  clear hw3 hfz c1 c5 row3
  have xp := on.bx (Ne.symm hgp.1) Hx.out.bx
  obtain ⟨qp, fp, lp⟩ := xp.all
  have hg3 : g < w3.heap.size := by rw [on.size]; exact hg
  have mp : MapT w3 m σ.appr := Hx.out.map.lift (on.block m (Ne.symm hgp.2.1))
  refine wp_region_tail (fun z : BW w3.heap.size w3 => z.w) 8 (by kernel_rfl) (by kernel_rfl) (BW.start _ _) rfl ?_
  simp only [List.take_succ_cons, List.take_zero, List.drop_succ_cons, List.drop_zero]
  repeat (go_big_quiet_step (first | fail))
  refine wpQuiet_nil ?_
  intro z
  have hz := z.below
  generalize z.w = w4 at *
  clear z
  have mp4 := mp.keep hz
  go_wp2_with (at_delete; refine mapT_delete rfl (.tmp 31) (.tmp 35) rfl mp4 rfl xs rfl (by unfold maxLen; omega) ?_)
  intro w5 mp5 on5
  go_wp2_with fail
  go_ret
  refine ⟨rfl, ?_⟩
  have hX := Hx.out
  obtain ⟨hn2, hn3, hn4⟩ := Hn4.out
  have hkeep : ∀ b, b < w1.heap.size → b ≠ m → b ≠ g → w5.heap[b]? = w1.heap[b]? := fun b h0 h1 h2 => (on5.block b h1).trans ((hz.block b (by rw [on.size]; exact h0)).trans (on.block b h2))
  have hnp : ∀ {b q : Nat} {n c : Nat}, (Value.slice (some ⟨q, 0, none⟩) n c).ownBlock ≠ some b → b ≠ q := fun h e => h (by rw [e]; rfl)
  refine RO.changed (w := w1) (r := rv k) hX B hk ?_ _ (on5.rowN (Row3.out.keep hz) (fun b e => by simp only [Value.ownBlock, Option.some.injEq] at e; omega)) ?_ _ (hX.by_.lift fun b e hlt => hkeep b hlt (hn2 b e).2.1 (hnp (hn2 b e).2.2.1)) ?_ _ (hX.at_.lift fun b e hlt => hkeep b hlt (hn3 b e).2.1 (hnp (hn3 b e).2.2.1)) ?_ ?_ ?_ ?_ ?_ ?_ ?_
  · exact on5.bx hpm (xp.keep hz)
  · intro k' j h1 h2
    rw [mcell_set hk]
    by_cases hkk : k' = k
    · subst hkk
      rcases (by omega : j = 0 ∨ j = 1 ∨ j = 2 ∨ j = 3 ∨ j = 4 ∨ j = 5 ∨ j = 6) with rfl | rfl | rfl | rfl | rfl | rfl | rfl <;> simp [mcell, ncell]
    · simp [hkk]
  · intro k' h1
    rw [nAt_set hk]
    by_cases hkk : k' = k
    · simp [hkk]
    · simp [hkk]
  · intro k' h1
    rw [nAt_set hk]
    by_cases hkk : k' = k
    · simp [hkk]
    · simp [hkk]
  · exact (hX.reps k hk).lift fun b e hlt => by
      obtain ⟨a1, a2, a3, _, _⟩ := hn4 k hk b e
      exact hkeep b hlt a2 (hnp a3)
  · rw [← Hxs.out]; exact mp5
  · exact fun b e => .inl e
  · have h1 := hz.size
    have h2 := on.size
    have h3 := on5.size
    omega
  · exact ⟨on5.os.trans (hz.os.trans on.os), on5.tape.trans (hz.tape.trans on.tape), on5.output.trans (hz.output.trans on.output)⟩
  · intro b h1 h2 h3 h4 h5 h6
    exact hkeep b h1 h3 (hnp h4)

/-- The reference's 'when': -1 where nobody closed. -/
def whenI (l : Int) : Int := if l = 0 then -1 else l
theorem whenI_pos {l : Int} (h : 0 < l) : whenI l = l := if_neg (by omega)
theorem whenI_lt {l d : Int} (h : l < d) (_h0 : 0 ≤ l) : whenI l < d := by unfold whenI; split <;> omega

set_option maxRecDepth 100000 in
set_option maxHeartbeats 16000000 in
theorem ref_Approve_any (p : Nat) (σ : Rv) (F : Nat → Prop) (vn vb va : Value) (m : Nat) (rv : Nat → Value) (shot author : ByteArray) (W : World) (h : RO W p σ F vn vb va m rv) (wf : Wf σ) (hl : σ.appr.length ≤ 1000000000) :
    Calls Tryz.prog 26 #[.pointer (some ⟨p, 0, none⟩), .string shot, .string author] W fun e w' => e = .returned (.int .i64 (apprE σ shot author)) ∧ (apprE σ shot author ≠ 0 → Below W.heap.size W w') ∧ (apprE σ shot author = 0 → RGo W p (apprS σ shot author) F w') := by
  unfold apprE
  have hlen := wf.len
  by_cases h1 : nameB shot = false
  · rw [if_pos (.inl h1)]
    clear h wf
    go_enter Tryz.func26, Tryz.ntmps26
    go_wp2_with fail
    refine (ref_IsName _ _).mono ?_
    rintro e w1 ⟨rfl, hb⟩
    go_wp2_with fail
    go_ret
    exact ⟨rfl, fun _ => hb, fun e => by cases e⟩
  replace h1 : nameB shot = true := by simpa using h1
  by_cases h2 : nameB author = false
  · rw [if_pos (.inr h2)]
    clear h wf
    go_enter Tryz.func26, Tryz.ntmps26
    go_wp2_with fail
    refine (ref_IsName _ _).mono ?_
    rintro e w1 ⟨rfl, hb⟩
    go_wp2_with fail
    refine (ref_IsName _ _).mono ?_
    rintro e w2 ⟨rfl, hb2⟩
    replace hb := bcall hb hb2
    go_wp2_with fail
    go_ret
    exact ⟨rfl, fun _ => hb, fun e => by cases e⟩
  replace h2 : nameB author = true := by simpa using h2
  rw [if_neg (by rw [h1, h2]; simp)]
  obtain ⟨res, hres⟩ : ∃ r, r = (if anyOpen shot σ.notes = true then (13 : Int) else if (lastC shot σ.notes (0, ⟨#[]⟩)).2 = author then 12 else 0) := ⟨_, rfl⟩
  rw [← hres]
  have Hres := Lib.hid hres
  clear hres
  have hs1 := (name_sz h1).2
  have hs2 := (name_sz h2).2
  have Hnt := Lib.hid wf.notes
  have hcnt := wf.count
  obtain ⟨a, c, rfl, _⟩ := h.row.form
  obtain ⟨ab, cb, rfl, _⟩ := h.by_.form
  obtain ⟨aa, ca, rfl, _⟩ := h.at_.form
  have H := Lib.hid h
  obtain ⟨n0, hn⟩ : ∃ n, n = σ.notes.length := ⟨_, rfl⟩
  rw [← hn] at H hlen
  have Hn := Lib.hid hn
  clear h wf hn
  go_enter Tryz.func26, Tryz.ntmps26
  go_wp2_with fail
  refine (ref_IsName _ _).mono ?_
  rintro e w1 ⟨rfl, B⟩
  go_wp2_with fail
  refine (ref_IsName _ _).mono ?_
  rintro e w2 ⟨rfl, hb2⟩
  replace B := bcall B hb2
  clear hb2
  obtain ⟨q, f, l⟩ := (H.out.keep B).bx.all
  go_wp2_with fail
  clear q f l
  go_loopw [7, 8, 24] (fun cv lv i wr => ∃ k : Nat, k ≤ n0 ∧ i = .int .i64 (k : Int) ∧ lv = .int .i64 (whenI (lastC shot (σ.notes.take k) (0, ⟨#[]⟩)).1) ∧ cv = .string (lastC shot (σ.notes.take k) (0, ⟨#[]⟩)).2 ∧ Hid (anyOpen shot (σ.notes.take k) = false) ∧ Below W.heap.size W wr) (fun _ _ i _ => n0 - (intOf i).toNat)
  case atStart => exact ⟨0, by omega, rfl, rfl, rfl, Lib.hid rfl, B⟩
  case round =>
    clear B
    obtain ⟨k, hk, rfl, rfl, rfl, hz, B⟩ := hrel
    by_cases hlt : k < n0
    · have hks : k < σ.notes.length := by rw [← Hn.out]; exact hlt
      have hx := H.out.keep B
      obtain ⟨g, cap, eg, hg, hfz, c0, c1, c2, c3, c4, c5, c6⟩ := hx.at hks
      obtain ⟨rfl, rfl⟩ : a = some ⟨g, 0, none⟩ ∧ c = cap := by cases eg; exact ⟨rfl, rfl⟩
      obtain ⟨gB, capB, eB, hgB, _, _, hcB, _⟩ := hx.by_.open (by omega)
      obtain ⟨rfl, rfl⟩ : ab = some ⟨gB, 0, none⟩ ∧ cb = capB := by cases eB; exact ⟨rfl, rfl⟩
      obtain ⟨gA, capA, eA, hgA, _, _, hcA, _⟩ := hx.at_.open (by omega)
      obtain ⟨rfl, rfl⟩ : aa = some ⟨gA, 0, none⟩ ∧ ca = capA := by cases eA; exact ⟨rfl, rfl⟩
      have dB : wr.cell? ⟨gB, k, none⟩ = some (.string (nAt σ.notes k).closer) := by have := hcB k 0 hks (by omega); simpa using this
      have dA : wr.cell? ⟨gA, k, none⟩ = some (.int .i64 (nAt σ.notes k).closed) := by have := hcA k 0 hks (by omega); simpa using this
      clear hcB hcA eB eA
      obtain ⟨ra, rc, er, _⟩ := ((H.out.keep B).reps k hks).form
      rw [er] at c6
      generalize (nAt σ.notes k).reps.length = rl at *
      clear er
      have T := Lib.hid (And.intro (nAt_take hks) (And.intro (anyOpen_take (shot := shot) hks) (anyOpen_hit (shot := shot) hks)))
      have hcl := (Hnt.out _ (nAt_mem hks)).closed
      have hcr := (Hnt.out _ (nAt_mem hks)).closer
      generalize nAt σ.notes k = x at *
      obtain ⟨xs, xf, xa, xt, xo, xr, xc, xd⟩ := x
      dsimp only at c0 c1 c2 c3 c4 c5 c6 dB dA hcl hcr
      have hki : (k : Int) < (n0 : Int) := by omega
      obtain ⟨l1, hl1⟩ : ∃ x, x = (lastC shot (σ.notes.take k) (0, ⟨#[]⟩)).1 := ⟨_, rfl⟩
      obtain ⟨l2, hl2⟩ : ∃ x, x = (lastC shot (σ.notes.take k) (0, ⟨#[]⟩)).2 := ⟨_, rfl⟩
      rw [← hl1, ← hl2]
      have HL := Lib.hid (And.intro hl1 hl2)
      have hl1n : 0 ≤ l1 := by rw [hl1]; exact (lastC_wf shot σ.count _ (fun y hy => (Hnt.out y (List.mem_of_mem_take hy)).closed) _ (Int.le_refl _) hcnt).1
      obtain ⟨wn, hwn⟩ : ∃ wn, wn = whenI l1 := ⟨_, rfl⟩
      rw [← hwn]
      have Hwn := Lib.hid hwn
      clear eg hl1 hl2 hwn
      go_upto_region 7 with fail
      refine name_world ?_
      intro w3 hw3
      have x10 : Bx w3 wr.heap.size 65 #[.int .i64 ((k : Int) + 1), .string xs, .int .i64 xf, .string xa, .string xt, .bool xo, .slice ra rl rc] := by rw [hw3]; exact Bx.new _ _ _
      have b3 : Below wr.heap.size wr w3 := by rw [hw3]; exact bnew (Below.refl _ _)
      have B3 : Below W.heap.size W w3 := by rw [hw3]; exact bnew B
      obtain ⟨p10, hp10⟩ : ∃ p, p = wr.heap.size := ⟨_, rfl⟩
      rw [← hp10] at x10 ⊢
      have fB := (b3.cell (p := ⟨gB, k, none⟩) hgB).trans dB
      have fA := (b3.cell (p := ⟨gA, k, none⟩) hgA).trans dA
      have hx3 := hx.keep b3
      obtain ⟨qp, fp, lp⟩ := hx3.bx.all
      clear hw3 c0 c1 c2 c3 c4 c5 c6 hfz hg hp10 dB dA b3 hx hx3 hgB hgA
      obtain ⟨q10, f10, l10⟩ := x10.all
      by_cases hsh : xs = shot
      · have e1 : (xs.toList == shot.toList) = true := by rw [str_beq]; simp [hsh]
        cases xo
        · by_cases hgt : l1 < xd
          · have e2 : wn < xd := by rw [Hwn.out]; exact whenI_lt hgt hl1n
            have e3 : xc.toList.isEmpty = false := by
              rw [text_empty]
              rcases hcr with h0 | h0
              · omega
              · have := (name_sz h0.2).1
                exact decide_eq_false (by omega)
            clear hcr
            go_upto_region 11 with fail
            go_quiet (fail)
            go_wp2_with fail
            go_roundw
            case rel =>
              obtain ⟨t1, t2, t3⟩ := T.out
              obtain ⟨hl1, hl2⟩ := HL.out
              have hst : lastC shot (σ.notes.take (k + 1)) (0, ⟨#[]⟩) = (xd, xc) := by
                rw [t1, lastC_snoc]
                unfold stepC
                rw [if_pos ⟨hsh, by rw [← hl1]; exact hgt⟩]
              exact ⟨k + 1, by omega, by go_num, by rw [hst]; show Value.int .i64 xd = _; rw [whenI_pos (by omega)], by rw [hst], Lib.hid (by rw [t2, hz.out]; simp), below_drewN B3 _⟩
            case measure => simp [intOf]; omega
          · have e23 : ¬ wn < xd ∨ (wn < xd ∧ xc.toList.isEmpty = true) := by
              by_cases hz : wn < xd
              · right
                refine ⟨hz, ?_⟩
                rw [text_empty]
                rcases hcr with h0 | h0
                · rw [h0.2]; rfl
                · exfalso
                  have hw := Hwn.out
                  unfold whenI at hw
                  split at hw <;> omega
              · exact .inl hz
            clear hcr
            rcases e23 with e2 | ⟨e2, e3⟩
            all_goals
             go_wp2_with fail
             go_roundw
             case rel =>
               obtain ⟨t1, t2, t3⟩ := T.out
               obtain ⟨hl1, hl2⟩ := HL.out
               have hst : lastC shot (σ.notes.take (k + 1)) (0, ⟨#[]⟩) = (l1, l2) := by
                 rw [t1, lastC_snoc]
                 unfold stepC
                 rw [if_neg (fun e => hgt (by rw [hl1]; exact e.2)), hl1, hl2]
               exact ⟨k + 1, by omega, by go_num, by rw [hst]; rw [Hwn.out], by rw [hst], Lib.hid (by rw [t2, hz.out]; simp), B3⟩
             case measure => simp [intOf]; omega
        · go_wp2_with fail
          go_ret
          have hr : res = 13 := by rw [Hres.out, if_pos (T.out.2.2 hsh (by first | rfl | trivial))]
          refine ⟨by rw [hr]; rfl, fun _ => B3, fun e => ?_⟩
          rw [hr] at e; cases e
      · have e1 : (xs.toList == shot.toList) = false := by rw [str_beq]; simp [hsh]
        go_wp2_with fail
        go_roundw
        case rel =>
          obtain ⟨t1, t2, t3⟩ := T.out
          obtain ⟨hl1, hl2⟩ := HL.out
          have hst : lastC shot (σ.notes.take (k + 1)) (0, ⟨#[]⟩) = (l1, l2) := by
            rw [t1, lastC_snoc]
            unfold stepC
            rw [if_neg (fun e => hsh e.1), hl1, hl2]
          exact ⟨k + 1, by omega, by go_num, by rw [hst]; rw [Hwn.out], by rw [hst], Lib.hid (by rw [t2, hz.out]; simp [hsh]), B3⟩
        case measure => simp [intOf]; omega
    · obtain rfl : k = n0 := by omega
      have htk : σ.notes.take k = σ.notes := by rw [Hn.out, List.take_length]
      rw [htk] at hz ⊢
      have hx := H.out.keep B
      obtain ⟨q, f, l⟩ := hx.bx.all
      have Hx := Lib.hid hx
      have hmap := hx.map
      have hrs : res = if (lastC shot σ.notes (0, ⟨#[]⟩)).2 = author then 12 else 0 := by rw [Hres.out, if_neg (by rw [hz.out]; simp)]
      generalize (lastC shot σ.notes (0, ⟨#[]⟩)).1 = l1 at *
      generalize (lastC shot σ.notes (0, ⟨#[]⟩)).2 = l2 at *
      clear hx hz htk
      by_cases hc : l2 = author
      · have e1 : (l2.toList == author.toList) = true := by rw [str_beq]; simp [hc]
        rw [if_pos hc] at hrs
        have Hr := Lib.hid hrs
        clear hrs hc
        go_wp2_with fail
        go_ret
        refine ⟨by rw [Hr.out]; rfl, fun _ => B, fun e => ?_⟩
        rw [Hr.out] at e; cases e
      · have e1 : (l2.toList == author.toList) = false := by rw [str_beq]; simp [hc]
        rw [if_neg hc] at hrs
        have Hr := Lib.hid hrs
        clear hrs hc
        go_wp2_with (at_mapUpdate; refine mapT_update rfl (.tmp 75) (.tmp 76) (.tmp 77) rfl hmap rfl shot author rfl rfl (by unfold maxLen; omega) (by unfold maxLen; omega) (by unfold maxLen; omega) ?_)
        intro w5 mp5 on5
        go_wp2_with fail
        go_ret
        refine ⟨by rw [Hr.out]; rfl, fun e => absurd Hr.out e, fun _ => ?_⟩
        have hX := Hx.out
        obtain ⟨hpm, hn1, hn2, hn3, hn4⟩ := hX.nes
        refine ⟨F, .slice a k c, .slice ab k cb, .slice aa k ca, m, rv, ⟨?_, ?_, ?_, ?_, ?_, mp5, hX.fp, hX.fm, hX.fv, hX.fb, hX.fa, hX.fr, fun b hb => by rw [on5.size]; exact hX.flt b hb⟩, ?_, fun b hb => .inl hb⟩
        · exact on5.bx hpm hX.bx
        · exact on5.rowN hX.row (fun g hg => (hn1 g hg).2.1)
        · exact on5.rowN hX.by_ (fun g hg => (hn2 g hg).2.1)
        · exact on5.rowN hX.at_ (fun g hg => (hn3 g hg).2.1)
        · exact fun i hi => on5.rowN (hX.reps i hi) (fun g hg => (hn4 i hi g hg).2.1)
        · exact (Fr.of_below B).only on5 (fun _ => hX.fm)
end Go.Proofs.YtilninaminaadaaGreatDoor
