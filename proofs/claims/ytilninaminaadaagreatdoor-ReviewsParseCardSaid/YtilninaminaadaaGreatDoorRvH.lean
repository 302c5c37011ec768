/- slices.Clone at replies; notes that are handed out; conform's Notes. -/
import Derived.Test.YtilninaminaadaaGreatDoorRvE
namespace Go.Proofs.YtilninaminaadaaGreatDoor

section
open Go.RowKit

set_option maxRecDepth 100000 in
set_option maxHeartbeats 8000000 in
theorem conform_Open_err (p : Nat) (σ : Rv) (F : Nat → Prop) (vn : Value) (m : Nat) (rv : Nat → Value) (n : Int) (author : ByteArray) (W : World) (h : VO W p σ F vn m rv) (wf : Wf σ) (he : openE σ n author ≠ 0) :
    Calls Tryz.prog 23 #[.pointer (some ⟨p, 0, none⟩), .int .i64 n, .string author] W fun e w' => e = .returned (.int .i64 (openE σ n author)) ∧ Below W.heap.size W w' := by
  unfold openE at he ⊢
  have hlen := wf.len
  by_cases h1 : n < 1 ∨ (σ.notes.length : Int) < n
  · have e1 : ntE σ n author = 11 := by unfold ntE; rw [if_pos h1]
    rw [e1, if_pos (by decide)]
    have K := Lib.hid (h.find_none h1)
    clear he h wf e1 h1
    go_enter Tryz.func23, Tryz.ntmps23
    go_wp2_with fail
    refine (K.out W (Below.refl _ _)).mono ?_
    rintro e w1 ⟨rfl, B⟩
    go_wp2_with fail
    go_ret
    exact ⟨rfl, B⟩
  have h11 : 1 ≤ n := by omega
  have h12 : n ≤ σ.notes.length := by omega
  obtain ⟨g, cap, rfl, hfind⟩ := h.find_at hlen h11 h12
  have K := Lib.hid hfind
  clear hfind
  by_cases h2 : nameB author = false
  · have e1 : ntE σ n author = 6 := by unfold ntE; rw [if_neg h1, if_pos h2]
    rw [e1, if_pos (by decide)]
    clear he h wf e1 h1 h11 h12
    go_enter Tryz.func23, Tryz.ntmps23
    go_wp2_with fail
    refine (K.out W (Below.refl _ _)).mono ?_
    rintro e w1 ⟨rfl, B⟩
    go_wp2_with fail
    refine (conform_isName _ _).mono ?_
    rintro e w2 ⟨rfl, hb⟩
    replace B := bcall B hb
    clear hb
    go_wp2_with fail
    go_ret
    exact ⟨rfl, B⟩
  replace h2 : nameB author = true := by simpa using h2
  have e1 : ntE σ n author = 0 := by unfold ntE; rw [if_neg h1, if_neg (by rw [h2]; simp)]
  rw [e1, if_neg (by decide)] at he ⊢
  clear e1
  have hk : ntI n < σ.notes.length := by unfold ntI; omega
  have hxx : ntA σ n = nAt σ.notes (ntI n) := rfl
  rw [hxx] at he ⊢
  clear hxx
  have H := Lib.hid h
  generalize ntI n = k at *
  by_cases h6 : (nAt σ.notes k).opn = true
  · rw [if_pos h6]
    have Ho := Lib.hid h6
    clear he h wf h1 h11 h12 h6
    go_enter Tryz.func23, Tryz.ntmps23
    go_wp2_with fail
    refine (K.out W (Below.refl _ _)).mono ?_
    rintro e w1 ⟨rfl, B⟩
    go_wp2_with fail
    refine (conform_isName _ _).mono ?_
    rintro e w2 ⟨rfl, hb⟩
    replace B := bcall B hb
    clear hb
    have hx := H.out.keep B
    obtain ⟨g2, cap2, eg, hg, hfz, c0, c1, c2, c3, c4, c5, c6, c7, c8⟩ := hx.at hk
    cases eg
    rw [Ho.out] at c5
    clear c0 c1 c2 c3 c4 c6 c7 c8 hx
    go_wp2_with fail
    go_ret
    exact ⟨rfl, B⟩
  rw [if_neg h6] at he
  exact absurd rfl he

set_option maxRecDepth 100000 in
set_option maxHeartbeats 16000000 in
theorem conform_Open_ok (p : Nat) (σ : Rv) (F : Nat → Prop) (vn : Value) (m : Nat) (rv : Nat → Value) (n : Int) (author : ByteArray) (W : World) (h : VO W p σ F vn m rv) (wf : Wf σ) (he : openE σ n author = 0) :
    Calls Tryz.prog 23 #[.pointer (some ⟨p, 0, none⟩), .int .i64 n, .string author] W fun e w' => e = .returned (.int .i64 0) ∧ VGo W p (openS σ n) F w' := by
  unfold openE at he
  have hlen := wf.len
  split at he; · exact absurd he ‹_›
  rename_i h0
  obtain ⟨h11, h12, hk, h2, _, hwf⟩ := wf.at (by simpa using h0)
  split at he; · cases he
  rename_i h6
  have Ho : Hid ((nAt σ.notes (ntI n)).opn = false) := Lib.hid (by have h6 : ¬ (nAt σ.notes (ntI n)).opn = true := h6; simpa using h6)
  have hss : (nAt σ.notes (ntI n)).shot.size ≤ 40 := (name_sz hwf.shot).2
  obtain ⟨g, cap, rfl, hfind⟩ := h.find_at hlen h11 h12
  have K := Lib.hid hfind
  have H := Lib.hid h
  show Calls _ _ _ W fun e w' => e = .returned (.int .i64 0) ∧ VGo W p ⟨σ.notes.set (ntI n) { nAt σ.notes (ntI n) with opn := true }, delA σ.appr (nAt σ.notes (ntI n)).shot, σ.count⟩ F w'
  obtain ⟨k, hkn⟩ : ∃ k, k = ntI n := ⟨_, rfl⟩
  rw [← hkn] at hk Ho hss K ⊢
  clear he h wf h11 h12 h6 hfind h0 hkn hwf
  go_enter Tryz.func23, Tryz.ntmps23
  go_wp2_with fail
  refine (K.out W (Below.refl _ _)).mono ?_
  rintro e w1 ⟨rfl, B⟩
  go_wp2_with fail
  refine (conform_isName _ _).mono ?_
  rintro e w2 ⟨rfl, hb⟩
  replace B := bcall B hb
  clear hb
  have hx := H.out.keep B
  obtain ⟨g2, cap2, eg, hg, hfz, c0, c1, c2, c3, c4, c5, c6, c7, c8⟩ := hx.at hk
  cases eg
  rw [Ho.out] at c5
  obtain ⟨xs, hxs⟩ : ∃ xs, xs = (nAt σ.notes k).shot := ⟨_, rfl⟩
  rw [← hxs] at c1 hss
  have Hxs := Lib.hid hxs
  clear c0 c2 c3 c4 c6 c7 c8 hxs
  have Hx := Lib.hid hx
  have hgp := hx.ne_vp g rfl
  clear hx
  go_upto_region 9 with fail
  refine name_world ?_
  intro w3 hw3
  have on : Only g w2 w3 := by rw [hw3]; exact (Only.refl g w2).set _ _
  have row3 := Hx.out.row.set k 5 hk (by omega) (.bool true)
  rw [← hw3] at row3
  have Row3 := Lib.hid row3
  have d1 : w3.cell? ⟨g, k * 9 + 1, none⟩ = some (.string xs) := by
    obtain ⟨g3, cap3, e3, _, _, _, hc, _⟩ := row3.open (by omega)
    cases e3
    rw [hc k 1 hk (by omega), if_neg (by omega), Hxs.out]
    rfl
  clear hw3 hfz c1 c5 row3
  have xp := on.bx (Ne.symm hgp.1) Hx.out.bx
  obtain ⟨qp, fp, lp⟩ := xp.all
  have hg3 : g < w3.heap.size := by rw [on.size]; exact hg
  have mp : MapT w3 m σ.appr := Hx.out.map.lift (on.block m (Ne.symm hgp.2))
  refine wp_region_tail (fun z : BW w3.heap.size w3 => z.w) 9 (by kernel_rfl) (by kernel_rfl) (BW.start _ _) rfl ?_
  simp only [List.take_succ_cons, List.take_zero, List.drop_succ_cons, List.drop_zero]
  repeat (go_big_quiet_step (first | fail))
  refine wpQuiet_nil ?_
  intro z
  have hz := z.below
  generalize z.w = w4 at *
  clear z
  have mp4 := mp.keep hz
  go_wp2_with (at_delete; refine mapT_delete rfl (.tmp 35) (.tmp 40) rfl mp4 rfl xs rfl (by unfold maxLen; omega) ?_)
  intro w5 mp5 on5
  go_wp2_with fail
  go_ret
  refine ⟨rfl, ?_⟩
  have hX := Hx.out
  have hkeep : ∀ b, b < w2.heap.size → b ≠ m → b ≠ g → w5.heap[b]? = w2.heap[b]? := fun b h0 h1 h2 => (on5.block b h1).trans ((hz.block b (by rw [on.size]; exact h0)).trans (on.block b h2))
  refine VO.changed (w := w2) (r := rv k) hX B hk ?_ _ ((on5.rowN (Row3.out.keep hz) (fun b e => by simp only [Value.ownBlock, Option.some.injEq] at e; omega))) ?_ ?_ ?_ ?_ ?_ ?_ ?_
  · exact on5.bx hX.ne_pm (xp.keep hz)
  · intro k' j h1 h2
    rw [ncell_set hk]
    by_cases hkk : k' = k
    · subst hkk
      rcases (by omega : j = 0 ∨ j = 1 ∨ j = 2 ∨ j = 3 ∨ j = 4 ∨ j = 5 ∨ j = 6 ∨ j = 7 ∨ j = 8) with rfl | rfl | rfl | rfl | rfl | rfl | rfl | rfl | rfl <;> simp [ncell]
    · simp [hkk]
  · exact (hX.reps k hk).lift fun b e hlt => by
      obtain ⟨a1, a2, a3⟩ := hX.ne_r k hk b e
      exact hkeep b hlt a2 (fun e2 => a3 (by rw [e2]; rfl))
  · rw [← Hxs.out]; exact mp5
  · exact fun b e => .inl e
  · have h1 := hz.size
    have h2 := on.size
    have h3 := on5.size
    omega
  · exact ⟨on5.os.trans (hz.os.trans on.os), on5.tape.trans (hz.tape.trans on.tape), on5.output.trans (hz.output.trans on.output)⟩
  · intro b h1 h2 h3 h4 h5
    exact hkeep b h1 h3 (fun e => h4 (by rw [e]; rfl))

set_option maxRecDepth 100000 in
set_option maxHeartbeats 4000000 in
theorem conform_Approved (p : Nat) (σ : Rv) (F : Nat → Prop) (vn : Value) (m : Nat) (rv : Nat → Value) (shot : ByteArray) (hs : shot.size ≤ 9223372036854775807) (W : World) (h : VO W p σ F vn m rv) :
    Calls Tryz.prog 27 #[.pointer (some ⟨p, 0, none⟩), .string shot] W fun e w' => e = .returned (.tuple #[.string ((getA σ.appr shot).getD ⟨#[]⟩), .bool (getA σ.appr shot).isSome]) ∧ Below W.heap.size W w' := by
  have hlk := h.map.look_ok shot (by unfold maxLen; omega)
  obtain ⟨q, f, l⟩ := h.bx.all
  generalize (getA σ.appr shot).getD ⟨#[]⟩ = r1 at *
  generalize (getA σ.appr shot).isSome = r2 at *
  clear h
  go_enter Tryz.func27, Tryz.ntmps27
  go_wp2_with fail
  go_ret2
  exact ⟨rfl, Below.refl _ _⟩
set_option maxRecDepth 100000 in
set_option maxHeartbeats 4000000 in
theorem ref_Approved (p : Nat) (σ : Rv) (F : Nat → Prop) (vn vb va : Value) (m : Nat) (rv : Nat → Value) (shot : ByteArray) (hs : shot.size ≤ 9223372036854775807) (W : World) (h : RO W p σ F vn vb va m rv) :
    Calls Tryz.prog 28 #[.pointer (some ⟨p, 0, none⟩), .string shot] W fun e w' => e = .returned (.tuple #[.string ((getA σ.appr shot).getD ⟨#[]⟩), .bool (getA σ.appr shot).isSome]) ∧ Below W.heap.size W w' := by
  have hlk := h.map.look_ok shot (by unfold maxLen; omega)
  obtain ⟨q, f, l⟩ := h.bx.all
  generalize (getA σ.appr shot).getD ⟨#[]⟩ = r1 at *
  generalize (getA σ.appr shot).isSome = r2 at *
  clear h
  go_enter Tryz.func28, Tryz.ntmps28
  go_wp2_with fail
  go_ret2
  exact ⟨rfl, Below.refl _ _⟩
end

section
open Go.RowKit

def stepC (shot : ByteArray) (p : Int × ByteArray) (x : Nt) : Int × ByteArray := if x.shot = shot ∧ p.1 < x.closed then (x.closed, x.closer) else p
theorem lastC_snoc (shot : ByteArray) : ∀ (l : List Nt) (x : Nt) (p : Int × ByteArray), lastC shot (l ++ [x]) p = stepC shot (lastC shot l p) x
  | [], x, p => rfl
  | y :: l, x, p => by rw [List.cons_append, lastC, lastC, lastC_snoc shot l x]
theorem nAt_take {L : List Nt} {k : Nat} (h : k < L.length) : L.take (k + 1) = L.take k ++ [nAt L k] := by
  rw [List.take_succ_eq_append_getElem h]
  unfold nAt
  simp [List.getD, h]
theorem anyOpen_take {shot : ByteArray} {L : List Nt} {k : Nat} (h : k < L.length) : anyOpen shot (L.take (k + 1)) = (anyOpen shot (L.take k) || (decide ((nAt L k).shot = shot) && (nAt L k).opn)) := by
  rw [nAt_take h]
  unfold anyOpen
  rw [List.any_append]
  simp
theorem anyOpen_hit {shot : ByteArray} {L : List Nt} {k : Nat} (h : k < L.length) (h1 : (nAt L k).shot = shot) (h2 : (nAt L k).opn = true) : anyOpen shot L = true := by
  unfold anyOpen
  rw [List.any_eq_true]
  exact ⟨_, nAt_mem h, by simp [h1, h2]⟩
theorem lastC_wf (shot : ByteArray) (c : Int) : ∀ (l : List Nt), (∀ x ∈ l, 0 ≤ x.closed ∧ x.closed ≤ c) → ∀ p, 0 ≤ p.1 → p.1 ≤ c → 0 ≤ (lastC shot l p).1 ∧ (lastC shot l p).1 ≤ c
  | [], _, p, h1, h2 => ⟨h1, h2⟩
  | x :: l, h, p, h1, h2 => by
    rw [lastC]
    have hx := h x (by simp)
    split
    · exact lastC_wf shot c l (fun y hy => h y (by simp [hy])) _ hx.1 hx.2
    · exact lastC_wf shot c l (fun y hy => h y (by simp [hy])) _ h1 h2

set_option maxRecDepth 100000 in
set_option maxHeartbeats 16000000 in
theorem conform_Approve_any (p : Nat) (σ : Rv) (F : Nat → Prop) (vn : Value) (m : Nat) (rv : Nat → Value) (shot author : ByteArray) (W : World) (h : VO W p σ F vn m rv) (wf : Wf σ) (hl : σ.appr.length ≤ 1000000000) :
    Calls Tryz.prog 25 #[.pointer (some ⟨p, 0, none⟩), .string shot, .string author] W fun e w' => e = .returned (.int .i64 (apprE σ shot author)) ∧ (apprE σ shot author ≠ 0 → Below W.heap.size W w') ∧ (apprE σ shot author = 0 → VGo W p (apprS σ shot author) F w') := by
  unfold apprE
  have hlen := wf.len
  by_cases h1 : nameB shot = false
  · rw [if_pos (.inl h1)]
    clear h wf
    go_enter Tryz.func25, Tryz.ntmps25
    go_wp2_with fail
    refine (conform_isName _ _).mono ?_
    rintro e w1 ⟨rfl, hb⟩
    go_wp2_with fail
    go_ret
    exact ⟨rfl, fun _ => hb, fun e => by cases e⟩
  replace h1 : nameB shot = true := by simpa using h1
  by_cases h2 : nameB author = false
  · rw [if_pos (.inr h2)]
    clear h wf
    go_enter Tryz.func25, Tryz.ntmps25
    go_wp2_with fail
    refine (conform_isName _ _).mono ?_
    rintro e w1 ⟨rfl, hb⟩
    go_wp2_with fail
    refine (conform_isName _ _).mono ?_
    rintro e w2 ⟨rfl, hb2⟩
    replace hb := bcall hb hb2
    go_wp2_with fail
    go_ret
    exact ⟨rfl, fun _ => hb, fun e => by cases e⟩
  replace h2 : nameB author = true := by simpa using h2
  rw [if_neg (by rw [h1, h2]; simp)]
  obtain ⟨res, hres⟩ : ∃ r, r = (if anyOpen shot σ.notes = true then (13 : Int) else if (lastC shot σ.notes (0, ⟨#[]⟩)).2 = author then 12 else 0) := ⟨_, rfl⟩
  rw [← hres]
  have Hres := Lib.hid hres
  clear hres
  have hs1 := (name_sz h1).2
  have hs2 := (name_sz h2).2
  have Hnt := Lib.hid wf.notes
  have hcnt := wf.count
  obtain ⟨a, c, rfl, _⟩ := h.row.form
  have H := Lib.hid h
  obtain ⟨n0, hn⟩ : ∃ n, n = σ.notes.length := ⟨_, rfl⟩
  rw [← hn] at H hlen
  have Hn := Lib.hid hn
  clear h wf hn
  go_enter Tryz.func25, Tryz.ntmps25
  go_wp2_with fail
  refine (conform_isName _ _).mono ?_
  rintro e w1 ⟨rfl, B⟩
  go_wp2_with fail
  refine (conform_isName _ _).mono ?_
  rintro e w2 ⟨rfl, hb2⟩
  replace B := bcall B hb2
  clear hb2
  obtain ⟨q, f, l⟩ := (H.out.keep B).bx.all
  go_wp2_with fail
  clear q f l
  go_loopw [7, 8, 24] (fun lv cv i wr => ∃ k : Nat, k ≤ n0 ∧ i = .int .i64 (k : Int) ∧ lv = .int .i64 (lastC shot (σ.notes.take k) (0, ⟨#[]⟩)).1 ∧ cv = .string (lastC shot (σ.notes.take k) (0, ⟨#[]⟩)).2 ∧ Hid (anyOpen shot (σ.notes.take k) = false) ∧ Below W.heap.size W wr) (fun _ _ i _ => n0 - (intOf i).toNat)
  case atStart => exact ⟨0, by omega, rfl, rfl, rfl, Lib.hid rfl, B⟩
  case round =>
    clear B
    obtain ⟨k, hk, rfl, rfl, rfl, hz, B⟩ := hrel
    by_cases hlt : k < n0
    · have hks : k < σ.notes.length := by rw [← Hn.out]; exact hlt
      obtain ⟨g, cap, eg, hg, hfz, c0, c1, c2, c3, c4, c5, c6, c7, c8⟩ := (H.out.keep B).at hks
      obtain ⟨rfl, rfl⟩ : a = some ⟨g, 0, none⟩ ∧ c = cap := by cases eg; exact ⟨rfl, rfl⟩
      obtain ⟨ra, rc, er, _⟩ := ((H.out.keep B).reps k hks).form
      rw [er] at c6
      generalize (nAt σ.notes k).reps.length = rl at *
      clear er
      have T := Lib.hid (And.intro (nAt_take hks) (And.intro (anyOpen_take (shot := shot) hks) (anyOpen_hit (shot := shot) hks)))
      have hcl := (Hnt.out _ (nAt_mem hks)).closed
      generalize nAt σ.notes k = x at *
      obtain ⟨xs, xf, xa, xt, xo, xr, xc, xd⟩ := x
      dsimp only at c0 c1 c2 c3 c4 c5 c6 c7 c8 hcl
      have hki : (k : Int) < (n0 : Int) := by omega
      obtain ⟨l1, hl1⟩ : ∃ x, x = (lastC shot (σ.notes.take k) (0, ⟨#[]⟩)).1 := ⟨_, rfl⟩
      obtain ⟨l2, hl2⟩ : ∃ x, x = (lastC shot (σ.notes.take k) (0, ⟨#[]⟩)).2 := ⟨_, rfl⟩
      rw [← hl1, ← hl2]
      have HL := Lib.hid (And.intro hl1 hl2)
      clear eg hl1 hl2
      go_upto_region 7 with fail
      refine name_world ?_
      intro w3 hw3
      have x10 : Bx w3 wr.heap.size 67 #[.int .i64 ((k : Int) + 1), .string xs, .int .i64 xf, .string xa, .string xt, .bool xo, .slice ra rl rc, .string xc, .int .i64 xd] := by rw [hw3]; exact Bx.new _ _ _
      have B3 : Below W.heap.size W w3 := by rw [hw3]; exact bnew B
      obtain ⟨p10, hp10⟩ : ∃ p, p = wr.heap.size := ⟨_, rfl⟩
      rw [← hp10] at x10 ⊢
      clear hw3 c0 c1 c2 c3 c4 c5 c6 c7 c8 hfz hg hp10
      obtain ⟨q10, f10, l10⟩ := x10.all
      by_cases hsh : xs = shot
      · have e1 : (xs.toList == shot.toList) = true := by rw [str_beq]; simp [hsh]
        cases xo
        · by_cases hgt : l1 < xd
          · have e2 : decide (l1 < xd) = true := decide_eq_true hgt
            go_upto_region 11 with fail
            go_quiet (fail)
            go_wp2_with fail
            go_roundw
            case rel =>
              obtain ⟨t1, t2, t3⟩ := T.out
              obtain ⟨hl1, hl2⟩ := HL.out
              have hst : lastC shot (σ.notes.take (k + 1)) (0, ⟨#[]⟩) = (xd, xc) := by
                rw [t1, lastC_snoc]
                unfold stepC
                rw [if_pos ⟨hsh, by rw [← hl1]; exact hgt⟩]
              exact ⟨k + 1, by omega, by go_num, by rw [hst], by rw [hst], Lib.hid (by rw [t2, hz.out]; simp), below_drewN B3 _⟩
            case measure => simp [intOf]; omega
          · have e2 : decide (l1 < xd) = false := decide_eq_false hgt
            go_wp2_with fail
            go_roundw
            case rel =>
              obtain ⟨t1, t2, t3⟩ := T.out
              obtain ⟨hl1, hl2⟩ := HL.out
              have hst : lastC shot (σ.notes.take (k + 1)) (0, ⟨#[]⟩) = (l1, l2) := by
                rw [t1, lastC_snoc]
                unfold stepC
                rw [if_neg (fun e => hgt (by rw [hl1]; exact e.2)), hl1, hl2]
              exact ⟨k + 1, by omega, by go_num, by rw [hst], by rw [hst], Lib.hid (by rw [t2, hz.out]; simp), B3⟩
            case measure => simp [intOf]; omega
        · go_wp2_with fail
          go_ret
          have hr : res = 13 := by rw [Hres.out, if_pos (T.out.2.2 hsh (by first | rfl | trivial))]
          refine ⟨by rw [hr]; rfl, fun _ => B3, fun e => ?_⟩
          rw [hr] at e; cases e
      · have e1 : (xs.toList == shot.toList) = false := by rw [str_beq]; simp [hsh]
        go_wp2_with fail
        go_roundw
        case rel =>
          obtain ⟨t1, t2, t3⟩ := T.out
          obtain ⟨hl1, hl2⟩ := HL.out
          have hst : lastC shot (σ.notes.take (k + 1)) (0, ⟨#[]⟩) = (l1, l2) := by
            rw [t1, lastC_snoc]
            unfold stepC
            rw [if_neg (fun e => hsh e.1), hl1, hl2]
          exact ⟨k + 1, by omega, by go_num, by rw [hst], by rw [hst], Lib.hid (by rw [t2, hz.out]; simp [hsh]), B3⟩
        case measure => simp [intOf]; omega
    · obtain rfl : k = n0 := by omega
      have htk : σ.notes.take k = σ.notes := by rw [Hn.out, List.take_length]
      rw [htk] at hz ⊢
      have hx := H.out.keep B
      obtain ⟨q, f, l⟩ := hx.bx.all
      have Hx := Lib.hid hx
      have hmap := hx.map
      have hrs : res = if (lastC shot σ.notes (0, ⟨#[]⟩)).2 = author then 12 else 0 := by rw [Hres.out, if_neg (by rw [hz.out]; simp)]
      generalize (lastC shot σ.notes (0, ⟨#[]⟩)).1 = l1 at *
      generalize (lastC shot σ.notes (0, ⟨#[]⟩)).2 = l2 at *
      clear hx hz htk
      by_cases hc : l2 = author
      · have e1 : (l2.toList == author.toList) = true := by rw [str_beq]; simp [hc]
        rw [if_pos hc] at hrs
        have Hr := Lib.hid hrs
        clear hrs hc
        go_wp2_with fail
        go_ret
        refine ⟨by rw [Hr.out]; rfl, fun _ => B, fun e => ?_⟩
        rw [Hr.out] at e; cases e
      · have e1 : (l2.toList == author.toList) = false := by rw [str_beq]; simp [hc]
        rw [if_neg hc] at hrs
        have Hr := Lib.hid hrs
        clear hrs hc
        go_wp2_with (at_mapUpdate; refine mapT_update rfl (.tmp 51) (.tmp 52) (.tmp 53) rfl hmap rfl shot author rfl rfl (by unfold maxLen; omega) (by unfold maxLen; omega) (by unfold maxLen; omega) ?_)
        intro w5 mp5 on5
        go_wp2_with fail
        go_ret
        refine ⟨by rw [Hr.out]; rfl, fun e => absurd Hr.out e, fun _ => ?_⟩
        have hX := Hx.out
        have hvp := hX.ne_vp
        refine ⟨F, .slice a k c, m, rv, ⟨?_, ?_, ?_, hX.apart, mp5, hX.fp, hX.fm, hX.fv, hX.fr, fun b hb => by rw [on5.size]; exact hX.flt b hb⟩, ?_, fun b hb => .inl hb⟩
        · exact on5.bx hX.ne_pm hX.bx
        · exact on5.rowN hX.row (fun g hg => (hvp g hg).2)
        · exact fun i hi => on5.rowN (hX.reps i hi) (fun g hg => (hX.ne_r i hi g hg).2.1)
        · exact (Fr.of_below B).only on5 (fun _ => hX.fm)
end

section
open Go.RowKit

theorem RowN.of_owns {w : World} {B : Nat} {T : TypeId} {s n : Nat} {v : Value} {xs : List Value} {c : Nat → Nat → Value} (h : w.ownsRow B T s v n xs) (hc : ∀ k j, k < n → j < s → xs[k * s + j]? = some (c k j)) : RowN w T s v n c := by
  rcases h.2 with h0 | ⟨g, cap, cur, e1, _, e2, e3, e4, e5, e6⟩
  · exact .inl h0
  · refine .inr ⟨g, cap, cur, e1, e2, e3, e4, e5, fun k j hk hj => ?_⟩
    have hkl : k * s + j < n * s := by
      have : (k + 1) * s ≤ n * s := Nat.mul_le_mul_right _ hk
      rw [Nat.succ_mul] at this
      omega
    have h2 : (cur.toList.take (n * s))[k * s + j]? = xs[k * s + j]? := by rw [e6]
    rw [List.getElem?_take, if_pos hkl, Array.getElem?_toList] at h2
    rw [h2]
    exact hc k j hk hj
def rCells (L : List Rp) : List Value := L.flatMap fun y => [.string y.author, .string y.text]
theorem rCells_len (L : List Rp) : (rCells L).length = L.length * 2 := by
  induction L with
  | nil => rfl
  | cons y L ih => rw [rCells, List.flatMap_cons, List.length_append, ← rCells, ih, List.length_cons]; simp; omega
theorem rCells_get (L : List Rp) : ∀ (k j : Nat), k < L.length → j < 2 → (rCells L)[k * 2 + j]? = some (rcell L k j) := by
  induction L with
  | nil => intro k j h; simp at h
  | cons y L ih =>
    intro k j hk hj
    have hl : ([Value.string y.author, .string y.text] : List Value).length = 2 := rfl
    rw [rCells, List.flatMap_cons, ← rCells]
    cases k with
    | zero =>
      rw [List.getElem?_append_left (by rw [hl]; omega)]
      rcases (by omega : j = 0 ∨ j = 1) with rfl | rfl <;> rfl
    | succ k =>
      rw [List.getElem?_append_right (by rw [hl]; omega), hl, show (k + 1) * 2 + j - 2 = k * 2 + j by omega, ih k j (by simpa using hk) hj]
      rfl

set_option maxRecDepth 100000 in
set_option maxHeartbeats 4000000 in
theorem clone_reps (v : Value) (L : List Rp) (W : World) (hl : L.length ≤ 1000) (hv : RowN W 74 2 v L.length (rcell L)) :
    Calls Tryz.prog 41 #[v] W fun e w' => ∃ v', e = .returned v' ∧ RowN w' 74 2 v' L.length (rcell L) ∧ Below W.heap.size W w' ∧ ∀ b, v'.ownBlock = some b → W.heap.size ≤ b := by
  obtain ⟨i0, hi, hz0, hz1, hz2⟩ := info_parts infoReply
  have q22 : ∀ (w : World) (a : Option Addr) (n c n' c' : Nat), (binOp .eql 63 (.slice a n c) (.slice none n' c')).run Tryz.prog w = .ok (.bool a.isNone) w := fun w a n c n' c' => Lib.run_eql_slice_nil w _ _ a n c n' c' Tryz.underlying63
  rcases hv with ⟨rfl, h0⟩ | ⟨g, cap, cur, rfl, hb, h3, h4, h5, h6⟩
  · rw [h0]
    go_enter Tryz.func41, Tryz.ntmps41
    go_wp2_with fail
    go_ret
    exact ⟨_, rfl, RowN.nil _ _ _ _, Below.refl _ _, fun b hb => by cases hb⟩
  · have HC := Lib.hid (And.intro hb h6)
    generalize hn : L.length = n at *
    have Hn := Lib.hid hn
    clear hn hb h6
    go_enter Tryz.func41, Tryz.ntmps41
    go_wp2_with (at_builtin; refine wpList_append_own _ rfl _ _ 63 rfl W.heap.size 74 i0 (.agg #[.string ⟨#[]⟩, .string ⟨#[]⟩]) 2 32 Tryz.underlying63 hi hz0 hz1 hz2 rfl (by decide) _ _ _ rfl (World.ownsRow_made W #[] 0 (Nat.le_refl _) (Nat.zero_le _) rfl) ⟨g, 0, none⟩ n cap (rCells L) rfl ?qc1 ?qc2 ?qc3 ?qc4 ?qc5 ?qc6 ?qc7)
    case qc1 => rw [rCells_len, Hn.out]
    case qc2 =>
      intro j u hj
      have hlt := (List.getElem?_eq_some_iff.1 hj).1
      rw [rCells_len, Hn.out] at hlt
      have hk : j / 2 < n := by omega
      have hr : j % 2 < 2 := by omega
      have hjj : j = j / 2 * 2 + j % 2 := by omega
      rw [hjj, rCells_get L _ _ (by rw [Hn.out]; exact hk) hr] at hj
      rw [Addr.add_lit]
      refine Lib.cell?_alloc_some _ ?_
      obtain ⟨hb, h6⟩ := HC.out
      rw [cell_of_row W g _ cur _ (0, 0) hb, Nat.zero_add, hjj, h6 _ _ hk hr, ← hj]
    case qc3 =>
      intro u hu
      obtain ⟨e, _, he⟩ := List.mem_flatMap.1 hu
      simp only [List.mem_cons, List.mem_nil_iff, or_false] at he
      rcases he with rfl | rfl <;> rfl
    case qc4 => unfold maxLen; omega
    case qc5 => omega
    case qc6 => simp
    intro v' w1 hown hgrow hnil
    go_wp2_with fail
    go_ret
    have hown2 : w1.ownsRow W.heap.size 74 2 v' n (rCells L) := by simpa using hown
    refine ⟨v', rfl, RowN.of_owns hown2 (fun k j hk hj => rCells_get L k j (by rw [Hn.out]; exact hk) hj), ?_, ?_⟩
    · exact ((Below.refl _ W).alloc (Nat.le_refl _) _).grown hgrow (by simp) (by intro k hk; simp [Value.ownBlock] at hk; omega)
    · intro b hb
      rcases hown2.2 with ⟨rfl, _⟩ | ⟨g2, cap2, cur2, rfl, h7, _⟩
      · cases hb
      · simp only [Value.ownBlock, Option.some.injEq] at hb; omega

/-- Notes that are handed out, each with its number. -/
def qAt (L : List (Nat × Nt)) (k : Nat) : Nat × Nt := L.getD k default
def qcell (L : List (Nat × Nt)) (rv : Nat → Value) (k j : Nat) : Value :=
  match j with
  | 0 => .int .i64 ((qAt L k).1 : Int)
  | 1 => .string (qAt L k).2.shot
  | 2 => .int .i64 (qAt L k).2.frame
  | 3 => .string (qAt L k).2.author
  | 4 => .string (qAt L k).2.text
  | 5 => .bool (qAt L k).2.opn
  | _ => rv k
def NtsV (w : World) (v : Value) (L : List (Nat × Nt)) : Prop := ∃ rv, RowN w 65 7 v L.length (qcell L rv) ∧ ∀ k, k < L.length → RowN w 74 2 (rv k) (qAt L k).2.reps.length (rcell (qAt L k).2.reps)
theorem NtsV.keep {w w' : World} {v : Value} {L : List (Nat × Nt)} (h : NtsV w v L) (hb : Below w.heap.size w w') : NtsV w' v L := by
  obtain ⟨rv, h1, h2⟩ := h
  exact ⟨rv, h1.keep hb, fun k hk => (h2 k hk).keep hb⟩
theorem NtsV.nil (w : World) : NtsV w (.slice none 0 0) [] := ⟨fun _ => .slice none 0 0, RowN.nil _ _ _ _, fun k hk => by simp at hk⟩
theorem NtsV.form {w : World} {v : Value} {L : List (Nat × Nt)} (h : NtsV w v L) : ∃ a cap, v = .slice a L.length cap := by
  obtain ⟨rv, h1, h2⟩ := h
  obtain ⟨a, c, e, _⟩ := h1.form
  exact ⟨a, c, e⟩
theorem infoNt : (Tryz.prog.info? 65).map (fun i => (i.zero, i.size, i.bytes)) = some (some (.agg #[.int .i64 0, .string ⟨#[]⟩, .int .i64 0, .string ⟨#[]⟩, .string ⟨#[]⟩, .bool false, .slice none 0 0]), 7, 96) := by kernel_rfl
def nt7 (n : Int) (x : Nt) (r : Value) : List Value := [.int .i64 n, .string x.shot, .int .i64 x.frame, .string x.author, .string x.text, .bool x.opn, r]
theorem nt7_one (n : Int) (x : Nt) (a : Option Addr) (l c : Nat) : ∀ u ∈ nt7 n x (.slice a l c), u.oneCell' = true := by
  intro u hu
  simp only [nt7, List.mem_cons, List.not_mem_nil, or_false] at hu
  rcases hu with rfl | rfl | rfl | rfl | rfl | rfl | rfl <;> rfl
theorem qAt_snoc {L : List (Nat × Nt)} {k : Nat} {p : Nat × Nt} (hk : k < L.length + 1) : qAt (L ++ [p]) k = if k < L.length then qAt L k else p := by
  unfold qAt
  rw [List.getD_eq_getElem?_getD, List.getD_eq_getElem?_getD]
  by_cases h : k < L.length
  · rw [List.getElem?_append_left h, if_pos h]
  · obtain rfl : k = L.length := by omega
    rw [if_neg h, List.getElem?_append_right (by omega)]; simp
/-- One more note has been appended. -/
theorem NtsV.more {w w' : World} {L : List (Nat × Nt)} {n : Nat} {x : Nt} {r v' : Value} {rv : Nat → Value} {num : Int} (hnum : num = (n : Int)) (h2 : ∀ k, k < L.length → RowN w 74 2 (rv k) (qAt L k).2.reps.length (rcell (qAt L k).2.reps))
    (hr : RowN w 74 2 r x.reps.length (rcell x.reps)) (hrow : RowN w' 65 7 v' (L.length + 1) (fun k j => if k < L.length then qcell L rv k j else (nt7 num x r).getD j undef))
    (hk : ∀ b, b < w.heap.size → (∃ cur, w.heap[b]? = some (.cells cur 74 (0, 0))) → w'.heap[b]? = w.heap[b]?) : NtsV w' v' (L ++ [(n, x)]) := by
  subst hnum
  refine ⟨fun k => if k < L.length then rv k else r, ?_, fun k hk' => ?_⟩
  · rw [List.length_append, List.length_singleton]
    refine hrow.congr fun k j hk' hj => ?_
    unfold qcell
    rw [qAt_snoc hk']
    by_cases h : k < L.length
    · simp only [if_pos h]
    · simp only [if_neg h]
      rcases (by omega : j = 0 ∨ j = 1 ∨ j = 2 ∨ j = 3 ∨ j = 4 ∨ j = 5 ∨ j = 6) with rfl | rfl | rfl | rfl | rfl | rfl | rfl <;> rfl
  · rw [List.length_append, List.length_singleton] at hk'
    rw [qAt_snoc hk']
    by_cases h : k < L.length
    · simp only [if_pos h]
      exact (h2 k h).lift fun b hb hlt => hk b hlt ((h2 k h).typed b hb)
    · simp only [if_neg h]
      exact hr.lift fun b hb hlt => hk b hlt (hr.typed b hb)
theorem numbered_len (L : List Nt) : (numbered L).length = L.length := by simp [numbered]
theorem numbered_take {L : List Nt} {k : Nat} (h : k < L.length) : (numbered L).take (k + 1) = (numbered L).take k ++ [(k + 1, nAt L k)] := by
  have hl : k < (numbered L).length := by rw [numbered_len]; exact h
  rw [List.take_succ_eq_append_getElem hl]
  congr 2
  simp [numbered, nAt]
theorem pick_snoc (shot : ByteArray) (op : Bool) (L : List (Nat × Nt)) (p : Nat × Nt) : pick shot op (L ++ [p]) = pick shot op L ++ (if (decide (shot.size = 0) || decide (p.2.shot = shot)) && (p.2.opn || !op) then [p] else []) := by
  unfold pick
  rw [List.filter_append]
  congr 1
  rw [List.filter_cons, List.filter_nil]
end
end Go.Proofs.YtilninaminaadaaGreatDoor
