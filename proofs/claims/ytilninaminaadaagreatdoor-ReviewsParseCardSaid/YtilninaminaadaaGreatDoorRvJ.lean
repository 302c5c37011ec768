/- dyeref1's Review: at, Add. (printed by gen_rvj.py) -/
import Derived.Test.YtilninaminaadaaGreatDoorRvK
import Derived.Deep.RegionLaw
namespace Go.Proofs.YtilninaminaadaaGreatDoor
open Go.RowKit

/-- The reference's note x, of number num, lies from cell o of block g on. -/
def MoteAt (w : World) (g o : Nat) (num : Int) (x : Nt) (r : Value) : Prop :=
  w.cell? ⟨g, o, none⟩ = some (.int .i64 num) ∧ w.cell? ⟨g, o + 1, none⟩ = some (.string x.shot) ∧ w.cell? ⟨g, o + 2, none⟩ = some (.int .i64 x.frame) ∧ w.cell? ⟨g, o + 3, none⟩ = some (.string x.author) ∧
  w.cell? ⟨g, o + 4, none⟩ = some (.string x.text) ∧ w.cell? ⟨g, o + 5, none⟩ = some (.bool x.opn) ∧ w.cell? ⟨g, o + 6, none⟩ = some r
theorem RO.at {w : World} {p : Nat} {σ : Rv} {F : Nat → Prop} {vn vb va : Value} {m : Nat} {rv : Nat → Value} (h : RO w p σ F vn vb va m rv) {k : Nat} (hk : k < σ.notes.length) :
    ∃ g cap, vn = .slice (some ⟨g, 0, none⟩) σ.notes.length cap ∧ g < w.heap.size ∧ (∀ o, w.frozen? ⟨g, o, none⟩ = false) ∧ MoteAt w g (k * 7) ((k : Int) + 1) (nAt σ.notes k) (rv k) := by
  obtain ⟨g, cap, e1, e2, _, _, e3, e4⟩ := h.row.open (by omega)
  exact ⟨g, cap, e1, e2, e4, e3 k 0 hk (by omega), e3 k 1 hk (by omega), e3 k 2 hk (by omega), e3 k 3 hk (by omega), e3 k 4 hk (by omega), e3 k 5 hk (by omega), e3 k 6 hk (by omega)⟩

set_option maxRecDepth 100000 in
set_option maxHeartbeats 4000000 in
theorem ref_at (p g cap n0 : Nat) (n : Int) (author : ByteArray) (u1 u2 u3 u4 : Value) (W : World) (x : Bx W p 51 #[.slice (some ⟨g, 0, none⟩) n0 cap, u1, u2, u3, u4]) (h1 : 1 ≤ n) (h2 : n ≤ n0) (hl : n0 ≤ 2000) :
    Calls Tryz.prog 51 #[.pointer (some ⟨p, 0, none⟩), .int .i64 n, .string author] W fun e w' => e = .returned (if nameB author = false then .tuple #[.pointer none, .int .i64 6] else .tuple #[.pointer (some ⟨g, ntI n * 7, none⟩), .int .i64 0]) ∧ Below W.heap.size W w' := by
  obtain ⟨q, f, l⟩ := x.all
  obtain ⟨k, rfl⟩ : ∃ k : Nat, n = (k : Int) + 1 := ⟨(n - 1).toNat, by omega⟩
  have hk : ntI ((k : Int) + 1) = k := by unfold ntI; omega
  rw [hk]
  have X := Lib.hid x
  clear x
  cases hb : nameB author
  · rw [if_pos rfl]
    go_enter Tryz.func51, Tryz.ntmps51
    go_wp2_with fail
    all_goals try omega
    refine (ref_IsName _ _).mono ?_
    rintro e w1 ⟨rfl, hb1⟩
    go_wp2_with fail
    go_ret2
    exact ⟨rfl, hb1⟩
  · rw [if_neg (by simp)]
    go_enter Tryz.func51, Tryz.ntmps51
    go_wp2_with fail
    all_goals try omega
    refine (ref_IsName _ _).mono ?_
    rintro e w1 ⟨rfl, hb1⟩
    obtain ⟨q2, f2, l2⟩ := (X.out.keep hb1).all
    clear q f l
    go_wp2_with fail
    all_goals try omega
    go_ret2
    exact ⟨rfl, hb1⟩
set_option maxRecDepth 100000 in
set_option maxHeartbeats 4000000 in
theorem ref_at_none (p cap n0 : Nat) (a : Option Addr) (n : Int) (author : ByteArray) (u1 u2 u3 u4 : Value) (W : World) (x : Bx W p 51 #[.slice a n0 cap, u1, u2, u3, u4]) (h1 : n < 1 ∨ (n0 : Int) < n) :
    Calls Tryz.prog 51 #[.pointer (some ⟨p, 0, none⟩), .int .i64 n, .string author] W fun e w' => e = .returned (.tuple #[.pointer none, .int .i64 11]) ∧ Below W.heap.size W w' := by
  obtain ⟨q, f, l⟩ := x.all
  clear x
  go_enter Tryz.func51, Tryz.ntmps51
  go_wp2_with fail
  all_goals try omega
  all_goals (go_ret2; exact ⟨rfl, Below.refl _ _⟩)
theorem RO.at_at {w : World} {p : Nat} {σ : Rv} {F : Nat → Prop} {vn vb va : Value} {m : Nat} {rv : Nat → Value} (h : RO w p σ F vn vb va m rv) (hl : σ.notes.length ≤ 2000) {n : Int} (author : ByteArray) (h1 : 1 ≤ n) (h2 : n ≤ σ.notes.length) :
    ∃ g cap, vn = .slice (some ⟨g, 0, none⟩) σ.notes.length cap ∧ ∀ w', Below w.heap.size w w' → Calls Tryz.prog 51 #[.pointer (some ⟨p, 0, none⟩), .int .i64 n, .string author] w' fun e w'' => e = .returned (if nameB author = false then .tuple #[.pointer none, .int .i64 6] else .tuple #[.pointer (some ⟨g, ntI n * 7, none⟩), .int .i64 0]) ∧ Below w'.heap.size w' w'' := by
  obtain ⟨g, cap, e1, _⟩ := h.at (k := ntI n) (by unfold ntI; omega)
  subst e1
  exact ⟨g, cap, rfl, fun w' hb => ref_at p g cap _ n author _ _ _ _ w' (h.keep hb).bx h1 h2 hl⟩
theorem RO.at_none {w : World} {p : Nat} {σ : Rv} {F : Nat → Prop} {vn vb va : Value} {m : Nat} {rv : Nat → Value} (h : RO w p σ F vn vb va m rv) {n : Int} (author : ByteArray) (hn : n < 1 ∨ (σ.notes.length : Int) < n) (w' : World) (hb : Below w.heap.size w w') :
    Calls Tryz.prog 51 #[.pointer (some ⟨p, 0, none⟩), .int .i64 n, .string author] w' fun e w'' => e = .returned (.tuple #[.pointer none, .int .i64 11]) ∧ Below w'.heap.size w' w'' := by
  obtain ⟨a, c, rfl, _⟩ := h.row.form
  exact ref_at_none p c _ a n author _ _ _ _ w' (h.keep hb).bx hn

set_option maxRecDepth 100000 in
set_option maxHeartbeats 8000000 in
theorem ref_Add_err (p : Nat) (σ : Rv) (F : Nat → Prop) (vn vb va : Value) (m : Nat) (rv : Nat → Value) (shot : ByteArray) (frame : Int) (author text : ByteArray) (hts : text.size ≤ 9223372036854775807) (W : World) (h : RO W p σ F vn vb va m rv) (wf : Wf σ) (he : addE σ shot frame author text ≠ 0) :
    Calls Tryz.prog 18 #[.pointer (some ⟨p, 0, none⟩), .string shot, .int .i64 frame, .string author, .string text] W fun e w' => e = .returned (.tuple #[.int .i64 0, .int .i64 (addE σ shot frame author text)]) ∧ Below W.heap.size W w' := by
  unfold addE at he ⊢
  obtain ⟨a, c, rfl, hc1, hc2⟩ := h.row.form
  have H := Lib.hid h
  have hlen := wf.len
  generalize hn : σ.notes.length = n0 at *
  clear h wf hn
  by_cases h1 : nameB shot = false
  · rw [if_pos (.inl h1)]
    clear he H
    go_enter Tryz.func18, Tryz.ntmps18
    go_wp2_with fail
    refine (ref_IsName _ _).mono ?_
    rintro e w1 ⟨rfl, hb⟩
    go_wp2_with fail
    go_ret2
    exact ⟨rfl, hb⟩
  replace h1 : nameB shot = true := by simpa using h1
  by_cases h2 : nameB author = false
  · rw [if_pos (.inr h2)]
    clear he H
    go_enter Tryz.func18, Tryz.ntmps18
    go_wp2_with fail
    refine (ref_IsName _ _).mono ?_
    rintro e w1 ⟨rfl, hb⟩
    go_wp2_with fail
    refine (ref_IsName _ _).mono ?_
    rintro e w2 ⟨rfl, hb2⟩
    replace hb := bcall hb hb2
    go_wp2_with fail
    go_ret2
    exact ⟨rfl, hb⟩
  replace h2 : nameB author = true := by simpa using h2
  rw [if_neg (by rw [h1, h2]; simp)] at he ⊢
  by_cases h3 : frame < 0 ∨ 16777216 < frame
  · rw [if_pos h3]
    clear he H
    rcases h3 with h3 | h3
    all_goals
      go_enter Tryz.func18, Tryz.ntmps18
      go_wp2_with fail
      refine (ref_IsName _ _).mono ?_
      rintro e w1 ⟨rfl, hb⟩
      go_wp2_with fail
      refine (ref_IsName _ _).mono ?_
      rintro e w2 ⟨rfl, hb2⟩
      replace hb := bcall hb hb2
      clear hb2
      go_wp2_with fail
      all_goals try omega
      go_ret2
      exact ⟨rfl, hb⟩
  rw [if_neg h3] at he ⊢
  have h31 : 0 ≤ frame := by omega
  have h32 : frame ≤ 16777216 := by omega
  clear h3
  by_cases h4 : text.size = 0
  · rw [if_pos (.inl h4)]
    have e4 : text.toList.isEmpty = true := by rw [text_empty]; simpa using h4
    clear he H h4
    go_enter Tryz.func18, Tryz.ntmps18
    go_wp2_with fail
    refine (ref_IsName _ _).mono ?_
    rintro e w1 ⟨rfl, hb⟩
    go_wp2_with fail
    refine (ref_IsName _ _).mono ?_
    rintro e w2 ⟨rfl, hb2⟩
    replace hb := bcall hb hb2
    clear hb2
    go_wp2_with fail
    all_goals try omega
    go_ret2
    exact ⟨rfl, hb⟩
  have e4 : text.toList.isEmpty = false := by rw [text_empty]; simpa using h4
  by_cases h5 : textB text = false
  · rw [if_pos (.inr h5)]
    clear he H h4
    go_enter Tryz.func18, Tryz.ntmps18
    go_wp2_with fail
    refine (ref_IsName _ _).mono ?_
    rintro e w1 ⟨rfl, hb⟩
    go_wp2_with fail
    refine (ref_IsName _ _).mono ?_
    rintro e w2 ⟨rfl, hb2⟩
    replace hb := bcall hb hb2
    clear hb2
    go_wp2_with fail
    all_goals try omega
    refine (ref_IsText _ hts _).mono ?_
    rintro e w3 ⟨rfl, hb2⟩
    replace hb := bcall hb hb2
    clear hb2
    go_wp2_with fail
    go_ret2
    exact ⟨rfl, hb⟩
  replace h5 : textB text = true := by simpa using h5
  rw [if_neg (by rw [h5]; simpa using h4)] at he ⊢
  by_cases h6 : 2000 ≤ n0
  · rw [if_pos h6]
    clear he h4
    go_enter Tryz.func18, Tryz.ntmps18
    go_wp2_with fail
    refine (ref_IsName _ _).mono ?_
    rintro e w1 ⟨rfl, hb⟩
    go_wp2_with fail
    refine (ref_IsName _ _).mono ?_
    rintro e w2 ⟨rfl, hb2⟩
    replace hb := bcall hb hb2
    clear hb2
    go_wp2_with fail
    all_goals try omega
    refine (ref_IsText _ hts _).mono ?_
    rintro e w3 ⟨rfl, hb2⟩
    replace hb := bcall hb hb2
    clear hb2
    obtain ⟨q, f, l⟩ := (H.out.bx.keep hb).all
    clear H
    go_wp2_with fail
    all_goals try omega
    go_ret2
    exact ⟨rfl, hb⟩
  rw [if_neg h6] at he
  exact absurd rfl he


set_option maxRecDepth 100000 in
set_option maxHeartbeats 16000000 in
theorem ref_Add_ok (p : Nat) (σ : Rv) (F : Nat → Prop) (vn vb va : Value) (m : Nat) (rv : Nat → Value) (shot : ByteArray) (frame : Int) (author text : ByteArray) (hts : text.size ≤ 9223372036854775807) (W : World) (h : RO W p σ F vn vb va m rv) (he : addE σ shot frame author text = 0) :
    Calls Tryz.prog 18 #[.pointer (some ⟨p, 0, none⟩), .string shot, .int .i64 frame, .string author, .string text] W fun e w' => e = .returned (.tuple #[.int .i64 ((σ.notes.length : Int) + 1), .int .i64 0]) ∧ RGo W p (addS σ shot frame author text) F w' := by
  unfold addE at he
  split at he; · cases he
  split at he; · cases he
  split at he; · cases he
  split at he; · cases he
  rename_i h1 h2 h3 h4
  have n1 : nameB shot = true := by simpa using fun e => h1 (.inl e)
  have n2 : nameB author = true := by simpa using fun e => h1 (.inr e)
  have n3 : textB text = true := by simpa using fun e => h3 (.inr e)
  have e4 : text.toList.isEmpty = false := by rw [text_empty]; simpa using fun e => h3 (.inl e)
  have h31 : 0 ≤ frame := by omega
  have h32 : frame ≤ 16777216 := by omega
  have hs40 := name_sz n1
  clear h1 h2 h3 he
  obtain ⟨a, c, rfl, hc1, hc2⟩ := h.row.form
  obtain ⟨ab, cb, rfl, hcb1, _⟩ := h.by_.form
  obtain ⟨aa, ca, rfl, hca1, _⟩ := h.at_.form
  have H := Lib.hid h
  obtain ⟨n0, hn⟩ : ∃ n, n = σ.notes.length := ⟨_, rfl⟩
  rw [← hn] at H hc1 hcb1 hca1 h4 ⊢
  have Hn := Lib.hid hn
  have hadd : IntKind.i64.wrap ((n0 : Int) + 1) = (n0 : Int) + 1 := IntWalk.i64_in _ (by omega)
  clear h hn
  go_enter Tryz.func18, Tryz.ntmps18
  go_wp2_with fail
  refine (ref_IsName _ _).mono ?_
  rintro e w1 ⟨rfl, hb⟩
  go_wp2_with fail
  refine (ref_IsName _ _).mono ?_
  rintro e w2 ⟨rfl, hb2⟩
  replace hb := bcall hb hb2
  clear hb2
  go_wp2_with fail
  all_goals try omega
  refine (ref_IsText _ hts _).mono ?_
  rintro e w3 ⟨rfl, hb2⟩
  replace hb := bcall hb hb2
  clear hb2
  obtain ⟨q, f, l⟩ := (H.out.bx.keep hb).all
  have hx := H.out.keep hb
  obtain ⟨hpm, hn1, hn2, hn3, hn4⟩ := hx.nes
  have hrow : RowN w3 65 7 (.slice a n0 c) n0 (mcell σ.notes rv) := by have := hx.row; rw [← Hn.out] at this; exact this
  have Hx := Lib.hid hx
  have Hnes := Lib.hid (And.intro hpm (And.intro hn1 (And.intro hn2 (And.intro hn3 hn4))))
  have q0 : w3.cell? ⟨p, 0, none⟩ = some (.slice a n0 c) := q 0
  have f0 := f 0
  clear hx H hpm hn1 hn2 hn3 hn4 q f
  have hrow2 := Lib.hid (hrow.keep (((Below.refl _ _).alloc (Nat.le_refl _) (.cells (nt7 ((n0 : Int) + 1) ⟨shot, frame, author, text, true, [], ⟨#[]⟩, 0⟩ (.slice none 0 0)).toArray 65)).drew))
  have HG : Hid (∀ w4 ob, ((w3.alloc ob).drew).grownBy w4 (Value.slice a n0 c).ownBlock → Bx w4 p 51 #[.slice a n0 c, .slice ab n0 cb, .slice aa n0 ca, .map (some m), .int .i64 σ.count]) := Lib.hid (fun w4 ob hg => grown_bx hg ((Hx.out.bx).keep (((Below.refl _ _).alloc (Nat.le_refl _) ob).drew)) (fun e => (Hnes.out.2.1 p e).1 rfl))
  clear hrow
  go_upto_region 9 with fail
  all_goals try omega
  go_region_law (refine rowN_step (news := nt7 ((n0 : Int) + 1) ⟨shot, frame, author, text, true, [], ⟨#[]⟩, 0⟩ (.slice none 0 0)) infoNt Tryz.underlying36 rfl (by decide) rfl (.tmp 47) (.tmp 59) rfl (by simp [Act.eval, Act.put]) w3.heap.size (by simp [Act.eval, Act.put]) hrow2.out (Bx.new _ _ _) rfl (nt7_one _ _ _ _ _) (by omega) (by omega) ?_; intro g' cap' w4 hrow4 hgrow hat hlt; obtain ⟨q4, f4, l4⟩ := (HG.out _ _ hgrow).all)
  all_goals
    have hgp : g' ≠ p := by
      rcases hat with e | e
      · exact (Hnes.out.2.1 _ e).1
      · simp at e; omega
    have HR4 := Lib.hid (And.intro hrow4 (And.intro hgrow (And.intro hat (And.intro hlt hgp))))
    have X4 := Lib.hid (HG.out _ _ hgrow)
    clear hrow4 hgrow hat hlt hgp HG q0 f0 hrow2
    go_upto_region 10 with fail
    refine name_world ?_
    intro w5 hw5
    have on5 : Only p w4 w5 := by rw [hw5]; exact (Only.refl p w4).set _ _
    have x5 : Bx w5 p 51 #[.slice (some ⟨g', 0, none⟩) (n0 + 1) cap', .slice ab n0 cb, .slice aa n0 ca, .map (some m), .int .i64 σ.count] := by rw [hw5]; exact X4.out.set 0 _
    have hsz4 : w3.heap.size ≤ w4.heap.size := by have := HR4.out.2.1.size; simp at this; omega
    have hsz5 : w3.heap.size ≤ w5.heap.size := by rw [on5.size]; exact hsz4
    have hk35 : ∀ b, b < w3.heap.size → b ≠ p → (Value.slice a n0 c).ownBlock ≠ some b → w5.heap[b]? = w3.heap[b]? := fun b hb1 hb2 hb3 => by
      rw [on5.block b hb2, HR4.out.2.1.block b (by simp; omega) (fun e => hb3 e.symm)]
      exact Below.heap_alloc _ _ _ hb1
    have rb5 : RowN w5 9 1 (.slice ab n0 cb) n0 (fun k _ => .string (nAt σ.notes k).closer) := by
      have := Hx.out.by_
      rw [← Hn.out] at this
      exact this.lift fun b hb hlt => hk35 b hlt (Hnes.out.2.2.1 b hb).1 (Hnes.out.2.2.1 b hb).2.2.1
    have ra5 : RowN w5 3 1 (.slice aa n0 ca) n0 (fun k _ => .int .i64 (nAt σ.notes k).closed) := by
      have := Hx.out.at_
      rw [← Hn.out] at this
      exact this.lift fun b hb hlt => hk35 b hlt (Hnes.out.2.2.2.1 b hb).1 (Hnes.out.2.2.2.1 b hb).2.2.1
    have HK35 := Lib.hid (And.intro hk35 (And.intro hsz5 on5))
    have HX5 := Lib.hid (And.intro x5 (And.intro (fun e => (Hnes.out.2.2.1 p e).1 rfl : (Value.slice ab n0 cb).ownBlock ≠ some p) (fun e => (Hnes.out.2.2.2.1 p e).1 rfl : (Value.slice aa n0 ca).ownBlock ≠ some p)))
    have HLB : Hid (∀ b, (Value.slice ab n0 cb).ownBlock = some b → b < w5.heap.size) := Lib.hid rb5.base
    have HLA : Hid (∀ b, (Value.slice aa n0 ca).ownBlock = some b → b < w5.heap.size) := Lib.hid ra5.base
    obtain ⟨q5, f5, l5⟩ := x5.all
    clear hw5 hk35 hsz4 hsz5 q4 f4 l4 on5
    refine wp_region_inv 20 (fun q u => if q = 6 then True else if q = 7 then True else if q = 12 then True else if q = 13 then True else u = [.pointer (some ⟨p, 0, none⟩), .pointer (some ⟨p, 0, none⟩), .pointer (some ⟨p, 0, none⟩), .pointer (some ⟨p, 0, none⟩), .pointer (some ⟨p, 1, none⟩), .slice ab n0 cb, undef, undef, .pointer (some ⟨p, 0, none⟩), .pointer (some ⟨p, 0, none⟩), .pointer (some ⟨p, 2, none⟩), .slice aa n0 ca, undef, undef, .pointer (some ⟨p, 0, none⟩), .pointer (some ⟨p, 1, none⟩), undef, .pointer (some ⟨p, 0, none⟩), .pointer (some ⟨p, 2, none⟩), undef].getD q undef) (fun d vs w' => EA w5 p (.slice (some ⟨g', 0, none⟩) (n0 + 1) cap') (.slice ab n0 cb) (.slice aa n0 ca) n0 m σ.count (fun k _ => .string (nAt σ.notes k).closer) (fun k _ => .int .i64 (nAt σ.notes k).closed) (d 5) (d 6) (d 7) (d 11) (d 12) (d 13) (d 16) (d 19) (vs 6) (vs 7) (vs 12) (vs 13) w') (by kernel_rfl) (by kernel_rfl) ?_ ?_ ?_
    · intro vs
      exact ⟨rfl, rfl, rfl, Nat.le_refl _, fun _ _ _ _ _ => rfl, x5, ⟨fun _ => rb5, fun e => (by cases e), fun e => (by cases e)⟩, ⟨fun _ => ra5, fun e => (by cases e), fun e => (by cases e)⟩, fun e => (by cases e), fun e => (by cases e), fun e => (by cases e), fun e => (by cases e)⟩
    · intro i o hi ho
      rcases (by omega : i = 0 ∨ i = 1 ∨ i = 2 ∨ i = 3 ∨ i = 4 ∨ i = 5 ∨ i = 6 ∨ i = 7 ∨ i = 8 ∨ i = 9 ∨ i = 10 ∨ i = 11 ∨ i = 12 ∨ i = 13 ∨ i = 14 ∨ i = 15 ∨ i = 16 ∨ i = 17 ∨ i = 18 ∨ i = 19) with rfl | rfl | rfl | rfl | rfl | rfl | rfl | rfl | rfl | rfl | rfl | rfl | rfl | rfl | rfl | rfl | rfl | rfl | rfl | rfl
      all_goals simp only [List.getElem?_cons_zero, List.getElem?_cons_succ, Option.some.injEq] at ho
      all_goals subst ho
      all_goals intro d a wx hE hag hdep hun
      · have e0 := slot_eq (hag 0 rfl)
        exact inv_val (v := .pointer (some ⟨p, 0, none⟩)) (by simp [go_sem, e0]) (fun h => (by cases h)) rfl hE
      · have e0 := slot_eq (hag 0 rfl)
        exact inv_val (v := .pointer (some ⟨p, 0, none⟩)) (by simp [go_sem, e0]) (fun h => (by cases h)) rfl hE
      · have e0 := slot_eq (hag 0 rfl)
        exact inv_val (v := .pointer (some ⟨p, 0, none⟩)) (by simp [go_sem, e0]) (fun h => (by cases h)) rfl hE
      · have e0 := slot_eq (hdep ⟨2, .data⟩ (by simp) rfl).1
        exact inv_val (v := .pointer (some ⟨p, 0, none⟩)) (by simp [go_sem, e0]) (fun h => (by cases h)) rfl hE
      · have e0 := slot_eq (hdep ⟨3, .data⟩ (by simp) rfl).1
        exact inv_val (v := .pointer (some ⟨p, 1, none⟩)) (by simp [go_sem, e0]) (fun h => (by cases h)) rfl hE
      · have e0 := slot_eq (hdep ⟨4, .data⟩ (by simp) rfl).1
        have hq := EA.load1 hE hun
        exact inv_val (v := .slice ab n0 cb) (by simp [go_sem, e0, hq]) (fun h => (by cases h)) rfl (EA.got5 hE)
      · exact inv_val (v := .slice (some ⟨wx.heap.size, 0, none⟩) 1 1) (w' := wx.alloc (.cells #[.string ⟨#[]⟩] 9)) (by simp [go_sem]) (fun h => (by cases h)) trivial (EA.build1 hE)
      · have e0 := slot_eq (hdep ⟨5, .data⟩ (by simp) rfl).1
        obtain ⟨g6, e6, _, x6⟩ := hE.rb.mid (hdep ⟨6, .data⟩ (by simp) rfl).2 hun
        have e1 := slot_eq e6
        refine rowN_wp (news := [.string ⟨#[]⟩]) infoStr Tryz.underlying48 rfl (by decide) (.tmp 68) (.tmp 69) rfl (by simp [Act.eval, e0]) g6 (by simp [Act.eval, e1]) (hE.rb.old hun) x6 rfl (one_of _ rfl) (by omega) (by omega) ?_
        intro g7 cap7 w7 hrow7 hgrow7 hat7 hlt7
        exact ⟨_, rfl, fun h => (by cases h), trivial, EA.app1 hE hun (hdep ⟨5, .data⟩ (by simp) rfl).2 hrow7 hgrow7 hat7 hlt7⟩
      · have e0 := slot_eq (hag 0 rfl)
        exact inv_val (v := .pointer (some ⟨p, 0, none⟩)) (by simp [go_sem, e0]) (fun h => (by cases h)) rfl hE
      · have e0 := slot_eq (hdep ⟨8, .data⟩ (by simp) rfl).1
        exact inv_val (v := .pointer (some ⟨p, 0, none⟩)) (by simp [go_sem, e0]) (fun h => (by cases h)) rfl hE
      · have e0 := slot_eq (hdep ⟨9, .data⟩ (by simp) rfl).1
        exact inv_val (v := .pointer (some ⟨p, 2, none⟩)) (by simp [go_sem, e0]) (fun h => (by cases h)) rfl hE
      · have e0 := slot_eq (hdep ⟨10, .data⟩ (by simp) rfl).1
        have hq := EA.load2 hE hun
        exact inv_val (v := .slice aa n0 ca) (by simp [go_sem, e0, hq]) (fun h => (by cases h)) rfl (EA.got11 hE)
      · exact inv_val (v := .slice (some ⟨wx.heap.size, 0, none⟩) 1 1) (w' := wx.alloc (.cells #[.int .i64 0] 3)) (by simp [go_sem]) (fun h => (by cases h)) trivial (EA.build2 hE)
      · have e0 := slot_eq (hdep ⟨11, .data⟩ (by simp) rfl).1
        obtain ⟨g6, e6, _, x6⟩ := hE.ra.mid (hdep ⟨12, .data⟩ (by simp) rfl).2 hun
        have e1 := slot_eq e6
        refine rowN_wp (news := [.int .i64 0]) infoInt Tryz.underlying49 rfl (by decide) (.tmp 74) (.tmp 75) rfl (by simp [Act.eval, e0]) g6 (by simp [Act.eval, e1]) (hE.ra.old hun) x6 rfl (one_of _ rfl) (by omega) (by omega) ?_
        intro g7 cap7 w7 hrow7 hgrow7 hat7 hlt7
        exact ⟨_, rfl, fun h => (by cases h), trivial, EA.app2 hE hun (hdep ⟨11, .data⟩ (by simp) rfl).2 hrow7 hgrow7 hat7 hlt7⟩
      · have e0 := slot_eq (hdep ⟨0, .data⟩ (by simp) rfl).1
        exact inv_val (v := .pointer (some ⟨p, 0, none⟩)) (by simp [go_sem, e0]) (fun h => (by cases h)) rfl hE
      · have e0 := slot_eq (hdep ⟨14, .data⟩ (by simp) rfl).1
        exact inv_val (v := .pointer (some ⟨p, 1, none⟩)) (by simp [go_sem, e0]) (fun h => (by cases h)) rfl hE
      · have e0 := slot_eq (hdep ⟨15, .data⟩ (by simp) rfl).1
        obtain ⟨g7, cap7, e7, _, _, _⟩ := hE.rb.new_ (hdep ⟨7, .data⟩ (by simp) rfl).2
        have e1 := slot_eq e7
        obtain ⟨qx, fx, _⟩ := hE.bx.all
        have hq := qx 1
        have hf := fx 1
        simp only [List.getElem?_toArray, List.getElem?_cons_zero, List.getElem?_cons_succ] at hq
        have hS := EA.store1 hE (hdep ⟨7, .data⟩ (by simp) rfl).2
        refine inv_skip (w' := wx.setCell ⟨p, 1, none⟩ (slotOf _ a 7)) ?_ rfl hS
        rw [e7]
        clear hS
        clear hE hag hdep e7 qx fx
        simp [go_sem, e0, e1, hq, hf]
      · have e0 := slot_eq (hdep ⟨1, .data⟩ (by simp) rfl).1
        exact inv_val (v := .pointer (some ⟨p, 0, none⟩)) (by simp [go_sem, e0]) (fun h => (by cases h)) rfl hE
      · have e0 := slot_eq (hdep ⟨17, .data⟩ (by simp) rfl).1
        exact inv_val (v := .pointer (some ⟨p, 2, none⟩)) (by simp [go_sem, e0]) (fun h => (by cases h)) rfl hE
      · have e0 := slot_eq (hdep ⟨18, .data⟩ (by simp) rfl).1
        obtain ⟨g7, cap7, e7, _, _, _⟩ := hE.ra.new_ (hdep ⟨13, .data⟩ (by simp) rfl).2
        have e1 := slot_eq e7
        obtain ⟨qx, fx, _⟩ := hE.bx.all
        have hq := qx 2
        have hf := fx 2
        simp only [List.getElem?_toArray, List.getElem?_cons_zero, List.getElem?_cons_succ] at hq
        have hS := EA.store2 hE (hdep ⟨13, .data⟩ (by simp) rfl).2
        refine inv_skip (w' := wx.setCell ⟨p, 2, none⟩ (slotOf _ a 13)) ?_ rfl hS
        rw [e7]
        clear hS
        clear hE hag hdep e7 qx fx
        simp [go_sem, e0, e1, hq, hf]
    · intro d vs w6 hd hE hA
      have hE2 : EA w5 p (.slice (some ⟨g', 0, none⟩) (n0 + 1) cap') (.slice ab n0 cb) (.slice aa n0 ca) n0 m σ.count (fun k _ => .string (nAt σ.notes k).closer) (fun k _ => .int .i64 (nAt σ.notes k).closed) true true true true true true true true (vs 6) (vs 7) (vs 12) (vs 13) w6 := by
        have := hE
        simp only [hd 5 (by omega), hd 6 (by omega), hd 7 (by omega), hd 11 (by omega), hd 12 (by omega), hd 13 (by omega), hd 16 (by omega), hd 19 (by omega)] at this
        exact this
      obtain ⟨gB, capB, k7, hrowB, hatB, hltB⟩ := hE2.rb.new_ rfl
      obtain ⟨gA, capA, k13, hrowA, hatA, hltA⟩ := hE2.ra.new_ rfl
      have k0 : vs 0 = .pointer (some ⟨p, 0, none⟩) := hA 0 (by omega)
      have k1 : vs 1 = .pointer (some ⟨p, 0, none⟩) := hA 1 (by omega)
      have k2 : vs 2 = .pointer (some ⟨p, 0, none⟩) := hA 2 (by omega)
      have k3 : vs 3 = .pointer (some ⟨p, 0, none⟩) := hA 3 (by omega)
      have k4 : vs 4 = .pointer (some ⟨p, 1, none⟩) := hA 4 (by omega)
      have k8 : vs 8 = .pointer (some ⟨p, 0, none⟩) := hA 8 (by omega)
      have k9 : vs 9 = .pointer (some ⟨p, 0, none⟩) := hA 9 (by omega)
      have k10 : vs 10 = .pointer (some ⟨p, 2, none⟩) := hA 10 (by omega)
      have k14 : vs 14 = .pointer (some ⟨p, 0, none⟩) := hA 14 (by omega)
      have k15 : vs 15 = .pointer (some ⟨p, 1, none⟩) := hA 15 (by omega)
      have k17 : vs 17 = .pointer (some ⟨p, 0, none⟩) := hA 17 (by omega)
      have k18 : vs 18 = .pointer (some ⟨p, 2, none⟩) := hA 18 (by omega)
      have k5 : vs 5 = .slice ab n0 cb := hA 5 (by omega)
      have k11 : vs 11 = .slice aa n0 ca := hA 11 (by omega)
      have hx6 : Bx w6 p 51 #[.slice (some ⟨g', 0, none⟩) (n0 + 1) cap', .slice (some ⟨gB, 0, none⟩) (n0 + 1) capB, .slice (some ⟨gA, 0, none⟩) (n0 + 1) capA, .map (some m), .int .i64 σ.count] := by
        have := hE2.bx
        rw [k7, k13] at this
        exact this
      generalize vs 6 = u6 at *
      generalize vs 12 = u12 at *
      simp only [putAll, dstAt, List.getElem?_toArray, List.getElem?_cons_zero, List.getElem?_cons_succ, Option.bind_some, Option.bind_eq_bind, Act.put, List.setIfInBounds_toArray, List.set_cons_zero, List.set_cons_succ, k0, k1, k2, k3, k4, k8, k9, k10, k14, k15, k17, k18, k5, k7, k11, k13]
      have hK7 := Lib.hid (And.intro k7 k13)
      clear hE hA hd k0 k1 k2 k3 k4 k8 k9 k10 k14 k15 k17 k18 k5 k7 k11 k13 q5 f5 l5
      go_upto_region 11 with fail
      have nes := Hnes.out
      obtain ⟨hk35, hsz5, on5⟩ := HK35.out
      have map6 : MapT w6 m σ.appr := Hx.out.map.lift ((hE2.block m (by have := Hx.out.map.lt; omega) (Ne.symm nes.1) (fun e => (nes.2.2.1 m e).2.1 rfl) (fun e => (nes.2.2.2.1 m e).2.1 rfl)).trans (hk35 m Hx.out.map.lt (Ne.symm nes.1) (fun e => (nes.2.1 m e).2.1 rfl)))
      have HE := Lib.hid (And.intro hE2 (And.intro hrowB (And.intro hatB (And.intro hltB (And.intro hrowA (And.intro hatA hltA))))))
      obtain ⟨q6, f6, l6⟩ := hx6.all
      have HX6 := Lib.hid hx6
      clear hE2 hrowB hatB hltB hrowA hatA hltA hk35 hsz5 on5 nes rb5 ra5 x5 hx6
      go_wp2_with (at_delete; refine mapT_delete rfl (.tmp 84) (.tmp 85) rfl map6 rfl shot rfl (by unfold maxLen; omega) ?_)
      intro w7 map7 on7
      have hpm7 := Hnes.out.1
      have x7 := on7.bx hpm7 HX6.out
      clear q6 f6 l6
      obtain ⟨q7, f7, l7⟩ := x7.all
      go_wp2_with fail
      go_ret2
      refine ⟨rfl, ?_⟩
      obtain ⟨hE2, hrowB, hatB, hltB, hrowA, hatA, hltA⟩ := HE.out
      obtain ⟨k7, k13⟩ := hK7.out
      obtain ⟨hk35, hsz5, on5⟩ := HK35.out
      obtain ⟨hrow4, hgrow, hat, hlt, hgp⟩ := HR4.out
      obtain ⟨hpm, hn1, hn2, hn3, hn4⟩ := Hnes.out
      rw [k7] at hrowB
      rw [k13] at hrowA
      have hs56 := hE2.size
      have hgm : g' ≠ m := by
        rcases hat with e | e
        · exact (hn1 _ e).2.1
        · have := Hx.out.map.lt; simp at e; omega
      have hgb : (Value.slice ab n0 cb).ownBlock ≠ some g' ∧ (Value.slice aa n0 ca).ownBlock ≠ some g' := by
        rcases hat with e | e
        · exact ⟨(hn1 _ e).2.2.1, (hn1 _ e).2.2.2⟩
        · simp at e
          refine ⟨fun e2 => ?_, fun e2 => ?_⟩
          · have := Hx.out.flt _ (Hx.out.fb _ e2); omega
          · have := Hx.out.flt _ (Hx.out.fa _ e2); omega
      have hrow6 : RowN w7 65 7 (.slice (some ⟨g', 0, none⟩) (n0 + 1) cap') (n0 + 1) _ := hrow4.lift fun b hb hblt => by
        simp only [Value.ownBlock, Option.some.injEq] at hb
        subst hb
        rw [on7.block g' hgm, hE2.block g' (by rw [on5.size]; exact hlt) hgp hgb.1 hgb.2, on5.block g' hgp]
      have hmB : ∀ cur T, w6.heap[m]? = some (.cells cur T (0, 0)) → False := fun cur T e => by
        obtain ⟨es, clock, e2⟩ := map6.ismap
        rw [e] at e2; cases e2
      have hrow7B := on7.rowN hrowB (fun b hb => by obtain ⟨cur, hc⟩ := hrowB.typed b hb; rintro rfl; exact hmB _ _ hc)
      have hrow7A := on7.rowN hrowA (fun b hb => by obtain ⟨cur, hc⟩ := hrowA.typed b hb; rintro rfl; exact hmB _ _ hc)
      have hn := Hn.out
      subst hn
      refine RO.added (w := w3) Hx.out hb x7 hrow6 hrow7B hrow7A map7 ?_ ?_ ?_ ?_ ?_ ?_ ?_ ?_ ?_
      · rcases hat with e | e
        · exact .inl e
        · exact .inr (by simp at e; omega)
      · rcases hatB with e | e
        · exact .inl e
        · exact .inr (by omega)
      · rcases hatA with e | e
        · exact .inl e
        · exact .inr (by omega)
      · rw [on7.size]
        have : g' < w5.heap.size := by rw [on5.size]; exact hlt
        omega
      · rw [on7.size]; exact hltB
      · rw [on7.size]; exact hltA
      · rw [on7.size]; omega
      · exact ⟨on7.os.trans (hE2.os.trans (on5.os.trans hgrow.os)), on7.tape.trans (hE2.tape.trans (on5.tape.trans hgrow.tape)), on7.output.trans (hE2.output.trans (on5.output.trans hgrow.output))⟩
      · intro b h1 h2 h3 h4 h5 h6
        rw [on7.block b h3, hE2.block b (by omega) h2 h5 h6]
        exact hk35 b h1 h2 h4
end Go.Proofs.YtilninaminaadaaGreatDoor
