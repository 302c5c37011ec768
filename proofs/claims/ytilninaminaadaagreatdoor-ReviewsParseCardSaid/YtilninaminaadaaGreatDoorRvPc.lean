/- conform's Review: noteLine. (printed by gen_rvpc.py) -/
import Derived.Test.YtilninaminaadaaGreatDoorRvPb
import Derived.Test.YtilninaminaadaaGreatDoorGrd
import Derived.Test.YtilninaminaadaaGreatDoorRvW
namespace Go.Proofs.YtilninaminaadaaGreatDoor
open Go.RowKit

theorem grd_undef {P : Program} {ops : Array Oper} {o : Oper} {a : Act} {w : World} {i j : Nat} {b : Bool} {A : Nat → Value → World → Prop} {fr : Nat → Bool} {Q : Exit → Act → World → Prop} (hg : o.guard = some (j, b)) (hs : slotOf ops a j = undef) (hf : fr i = false) (hA : A i undef w) :
    (if Region.wanted o (yielded ops a.tmps) then o.wp P a w (RelPost A fr i o a w) Q else RelPost A fr i o a w (a.put o.dst undef) w) := by
  have hy : yielded ops a.tmps j ≠ some b := by
    intro hy
    unfold slotOf at hs
    unfold yielded at hy
    unfold dstAt at hs
    cases hd : (ops[j]?).bind (·.dst) with
    | none => rw [hd] at hy; cases hy
    | some d =>
      rw [hd] at hs hy
      simp only [Option.bind_some] at hy
      cases ht : a.tmps[d]? with
      | none => rw [ht] at hy; cases hy
      | some v =>
        simp [ht] at hs
        rw [ht, hs] at hy
        cases hy
  rw [if_neg (by simp [Region.wanted, hg, hy])]
  exact ⟨undef, rfl, hA, Below.refl _ _, fun h => by rw [hf] at h; cases h⟩
/-- v reads as the two numbers; it is the call's own. -/
def IntR (a b : Int) (W w : World) (v : Value) : Prop := RowN w 3 1 v 2 (fun k _ => .int .i64 (if k = 0 then a else b)) ∧ ∀ c, v.ownBlock = some c → W.heap.size ≤ c
theorem IntR.keep {a b : Int} {W w w' : World} {v : Value} (h : IntR a b W w v) (hb : Below w.heap.size w w') : IntR a b W w' v := ⟨h.1.keep hb, h.2⟩
theorem VGo.fr {W w' : World} {p : Nat} {σ : Rv} {F : Nat → Prop} (h : VGo W p σ F w') : Fr F W w' := by
  obtain ⟨_, _, _, _, _, f, _⟩ := h; exact f
theorem VGo.pre {W w w' : World} {p : Nat} {σ : Rv} {F : Nat → Prop} (h : VGo w p σ F w') (hb : Below W.heap.size W w) : VGo W p σ F w' := by
  obtain ⟨F', vn, m, rv, a, f, c⟩ := h
  refine ⟨F', vn, m, rv, a, (Fr.of_below hb).trans f (fun b e => .inl e), fun b e => ?_⟩
  rcases c b e with e | e
  · exact .inl e
  · exact .inr (Nat.le_trans hb.size e)
theorem fr_cell {W w' : World} {F : Nat → Prop} (h : Fr F W w') {g o : Nat} {v : Value} (hg : ¬ F g) (hc : W.cell? ⟨g, o, none⟩ = some v) : w'.cell? ⟨g, o, none⟩ = W.cell? ⟨g, o, none⟩ := by
  have hl : g < W.heap.size := World.block_lt_of_cell? W _ hc
  unfold World.cell?
  rw [h.block g hl hg]
theorem list_beq (s : ByteArray) (l : List UInt8) : (s.toList == l) = decide (s = ⟨l.toArray⟩) := by
  rw [Lib.toList_data, Bool.eq_iff_iff, beq_iff_eq, decide_eq_true_iff]
  constructor
  · intro h
    apply ByteArray.ext
    apply Array.toList_inj.1
    rw [h]
  · rintro rfl; rfl
set_option maxRecDepth 100000 in
set_option maxHeartbeats 16000000 in
theorem conform_noteLine (p : Nat) (σ : Rv) (F : Nat → Prop) (vn : Value) (m : Nat) (rv : Nat → Value) (gw : Nat) (w0 w1 w2 w3 w4 w5 text : ByteArray) (W : World) (h : VO W p σ F vn m rv) (wf : Wf σ) (x : Bx W gw 9 #[.string w0, .string w1, .string w2, .string w3, .string w4, .string w5]) (hgw : ¬ F gw)
    (hs1 : w1.size ≤ 9223372036854775807) (hs3 : w3.size ≤ 9223372036854775807) :
    Calls Tryz.prog 59 #[.pointer (some ⟨p, 0, none⟩), .slice (some ⟨gw, 0, none⟩) 6 6, .string text] W fun e w' => ∃ er, e = .returned (.int .i64 er) ∧ ((er = 0 ∧ ∃ σ', noteO σ w1 w2 w3 w4 w5 text = some σ' ∧ VGo W p σ' F w') ∨ (er ≠ 0 ∧ noteO σ w1 w2 w3 w4 w5 text = none ∧ Fr F W w')) := by
  have hlen := wf.len
  have Hwf := Lib.hid wf
  obtain ⟨na, nc, rfl, _⟩ := h.row.form
  have H := Lib.hid h
  obtain ⟨n0, hn⟩ : ∃ n, n = σ.notes.length := ⟨_, rfl⟩
  rw [← hn] at H hlen
  have Hn := Lib.hid hn
  have xp := h.bx
  rw [← hn] at xp
  have Hgw := Lib.hid hgw
  have hn1 : IntKind.i64.wrap ((n0 : Int) + 1) = (n0 : Int) + 1 := by rw [IntKind.wrap_i64]; omega
  clear h hn wf hgw
  obtain ⟨q, f, l⟩ := x.all
  by_cases hcase : numI w1 = none ∨ numI w3 = none
  · have HN : Hid (∀ (e : Ending) (wx w' : World), numR w1 w3 wx e w' → e = .returned (.tuple #[.slice none 0 0, .bool false])) := Lib.hid (fun e wx w' hN => by
      unfold numR at hN
      rcases hcase with h | h
      · rw [h] at hN; exact hN
      · rw [h] at hN; cases h1 : numI w1 with
        | none => rw [h1] at hN; exact hN
        | some a => rw [h1] at hN; exact hN)
    have HO : Hid (noteO σ w1 w2 w3 w4 w5 text = none) := Lib.hid (by
      unfold noteO
      rcases hcase with h | h
      · rw [h]
      · rw [h]; cases numI w1 <;> rfl)
    clear hcase
    go_enter Tryz.func59, Tryz.ntmps59
    go_upto_region 1 with fail
    refine wp_region_grd 12 (fun _ => false) (fun q u w' => if q = 6 then ∃ gn, u = .slice (some ⟨gn, 0, none⟩) 2 2 ∧ Bx w' gn 9 #[.string w1, .string w3] else u = [.slice (some ⟨gw, 0, none⟩) 6 6, .pointer (some ⟨gw, 1, none⟩), .string w1, .slice (some ⟨gw, 0, none⟩) 6 6, .pointer (some ⟨gw, 3, none⟩), .string w3, undef, .tuple #[.slice none 0 0, .bool false], .tuple #[.slice none 0 0, .bool false], .slice none 0 0, .bool false, .slice none 0 0].getD q undef) (fun _ => false) (fun w' => Below W.heap.size W w') (by kernel_rfl) (by kernel_rfl) (fun _ _ _ _ _ h => h)
      (fun _ _ h e => e.trans (h.mono e.size)) (fun t u a' b' hb h => ?_) (Below.refl _ _).drew ?_ ?_ ?_
    · by_cases h4 : t = 6
      · subst h4
        obtain ⟨gn, e1, e3⟩ := h
        exact ⟨gn, e1, e3.keep hb⟩
      · rw [if_neg h4] at h ⊢; exact h
    · intro t op ht hlt hop
      clear hlt
      rcases (by omega : t = 0 ∨ t = 1 ∨ t = 2 ∨ t = 3 ∨ t = 4 ∨ t = 5 ∨ t = 6 ∨ t = 7 ∨ t = 8 ∨ t = 9 ∨ t = 10 ∨ t = 11) with rfl | rfl | rfl | rfl | rfl | rfl | rfl | rfl | rfl | rfl | rfl | rfl
      all_goals simp only [List.getElem?_cons_zero, List.getElem?_cons_succ, Option.some.injEq] at hop
      all_goals subst hop
      all_goals intro a0 wx hE hag hdep
      · refine grd_none rfl ?_
        have e0 := slot_eq (hag 1 rfl)
        exact rel_pure _ rfl rfl (by simp [go_sem, e0])
      · refine grd_none rfl ?_
        have e0 := slot_eq (hdep ⟨0, .data⟩ (by simp) rfl)
        exact rel_pure _ rfl rfl (by simp [go_sem, e0])
      · refine grd_none rfl ?_
        have e0 := slot_eq (hdep ⟨1, .data⟩ (by simp) rfl)
        have hq := (x.keep hE).all.1
        exact rel_pure _ rfl rfl (by simp [go_sem, e0, hq])
      · refine grd_none rfl ?_
        have e0 := slot_eq (hag 1 rfl)
        exact rel_pure _ rfl rfl (by simp [go_sem, e0])
      · refine grd_none rfl ?_
        have e0 := slot_eq (hdep ⟨3, .data⟩ (by simp) rfl)
        exact rel_pure _ rfl rfl (by simp [go_sem, e0])
      · refine grd_none rfl ?_
        have e0 := slot_eq (hdep ⟨4, .data⟩ (by simp) rfl)
        have hq := (x.keep hE).all.1
        exact rel_pure _ rfl rfl (by simp [go_sem, e0, hq])
      · refine grd_none rfl ?_
        have e0 := slot_eq (hdep ⟨2, .data⟩ (by simp) rfl)
        have e1 := slot_eq (hdep ⟨5, .data⟩ (by simp) rfl)
        exact rel_val (v := .slice (some ⟨wx.heap.size, 0, none⟩) 2 2) (w' := wx.alloc (.cells #[.string w1, .string w3] 9)) (by simp [go_sem, e0, e1]) ⟨wx.heap.size, rfl, Bx.new _ _ _⟩ ((Below.refl _ _).alloc (Nat.le_refl _) _) (fun h => by cases h)
      · refine grd_none rfl ?_
        obtain ⟨gn, e0, xn⟩ := hdep ⟨6, .data⟩ (by simp) rfl
        have e0 := slot_eq e0
        refine rel_call (f := 73) (args := #[.slice (some ⟨gn, 0, none⟩) 2 2]) (run_go_call Tryz.func73 (by kernel_rfl) (by kernel_rfl) _ _ _ _ _ _ _ _ _ _ (by simp [Act.eval, e0])) rfl ?_
        refine (numbers2 w1 w3 gn wx xn hs1 hs3).mono ?_
        rintro e w' ⟨hN, hb⟩
        exact ⟨_, (HN.out _ _ _ hN), rfl, hb⟩
      · refine grd_none rfl ?_
        have e0 := slot_eq (hdep ⟨7, .data⟩ (by simp) rfl)
        exact rel_pure _ rfl rfl (by simp [go_sem, e0])
      · refine grd_none rfl ?_
        have e0 := slot_eq (hdep ⟨8, .data⟩ (by simp) rfl)
        exact rel_pure _ rfl rfl (by simp [go_sem, e0])
      · refine grd_none rfl ?_
        have e0 := slot_eq (hdep ⟨8, .data⟩ (by simp) rfl)
        exact rel_pure _ rfl rfl (by simp [go_sem, e0])
      · refine grd_none rfl ?_
        have e0 := slot_eq (hdep ⟨9, .data⟩ (by simp) rfl)
        exact rel_pure _ rfl rfl (by simp [go_sem, e0])
    · intro t op ht hlt; cases hlt
    · intro vs wn B hvs _
      have k10 : vs 10 = .bool false := hvs 10 (by omega)
      have k11 : vs 11 = .slice none 0 0 := hvs 11 (by omega)
      simp only [List.drop_succ_cons, List.drop_zero, putAll, dstAt, List.getElem?_toArray, List.getElem?_cons_zero, List.getElem?_cons_succ, Option.bind_some, Act.put, List.setIfInBounds_toArray, List.set_cons_zero, List.set_cons_succ, k10, k11]
      clear hvs k10 k11 HN q f l
      have xw := x.keep B
      have xpw := xp.keep B
      go_upto_region 2 with fail
      refine wp_region_grd 25 (fun _ => false) (fun q u w' => u = [.bool false, .bool true, .bool true, undef, undef, undef, undef, undef, undef, undef, undef, undef, undef, .bool true, .bool true, undef, undef, undef, undef, undef, undef, undef, undef, undef, undef].getD q undef) (fun _ => false) (fun w' => Below wn.heap.size wn w') (by kernel_rfl) (by kernel_rfl) (fun _ _ _ _ _ h => h)
        (fun _ _ h e => e.trans (h.mono e.size)) (fun t u a' b' hb h => ?_) (Below.refl _ _).drew ?_ ?_ ?_
      · exact h
      · intro t op ht hlt hop
        clear hlt
        rcases (by omega : t = 0 ∨ t = 1 ∨ t = 2 ∨ t = 3 ∨ t = 4 ∨ t = 5 ∨ t = 6 ∨ t = 7 ∨ t = 8 ∨ t = 9 ∨ t = 10 ∨ t = 11 ∨ t = 12 ∨ t = 13 ∨ t = 14 ∨ t = 15 ∨ t = 16 ∨ t = 17 ∨ t = 18 ∨ t = 19 ∨ t = 20 ∨ t = 21 ∨ t = 22 ∨ t = 23 ∨ t = 24) with rfl | rfl | rfl | rfl | rfl | rfl | rfl | rfl | rfl | rfl | rfl | rfl | rfl | rfl | rfl | rfl | rfl | rfl | rfl | rfl | rfl | rfl | rfl | rfl | rfl
        all_goals simp only [List.getElem?_cons_zero, List.getElem?_cons_succ, Option.some.injEq] at hop
        all_goals subst hop
        all_goals intro a wx hE hag hdep
        · refine grd_none rfl ?_
          have e0 := slot_eq (hag 8 rfl)
          exact rel_pure _ rfl rfl (by simp [go_sem, e0])
        · refine grd_none rfl ?_
          have e0 := slot_eq (hdep ⟨0, .data⟩ (by simp) rfl)
          exact rel_pure _ rfl rfl (by simp [go_sem, e0])
        · refine grd_none rfl ?_
          have e0 := slot_eq (hdep ⟨1, .data⟩ (by simp) rfl)
          exact rel_pure _ rfl rfl (by simp [go_sem, e0])
        · exact grd_no (j := 2) (b := false) rfl (hdep ⟨2, .guard⟩ (by simp) rfl) rfl rfl
        · exact grd_no (j := 2) (b := false) rfl (hdep ⟨2, .guard⟩ (by simp) rfl) rfl rfl
        · exact grd_no (j := 2) (b := false) rfl (hdep ⟨2, .guard⟩ (by simp) rfl) rfl rfl
        · exact grd_no (j := 2) (b := false) rfl (hdep ⟨2, .guard⟩ (by simp) rfl) rfl rfl
        · exact grd_no (j := 2) (b := false) rfl (hdep ⟨2, .guard⟩ (by simp) rfl) rfl rfl
        · exact grd_no (j := 2) (b := false) rfl (hdep ⟨2, .guard⟩ (by simp) rfl) rfl rfl
        · exact grd_no (j := 2) (b := false) rfl (hdep ⟨2, .guard⟩ (by simp) rfl) rfl rfl
        · exact grd_no (j := 2) (b := false) rfl (hdep ⟨2, .guard⟩ (by simp) rfl) rfl rfl
        · exact grd_no (j := 2) (b := false) rfl (hdep ⟨2, .guard⟩ (by simp) rfl) rfl rfl
        · exact grd_no (j := 2) (b := false) rfl (hdep ⟨2, .guard⟩ (by simp) rfl) rfl rfl
        · refine grd_none rfl ?_
          have e0 := slot_eq (hdep ⟨2, .data⟩ (by simp) rfl)
          have e1 := slot_eq (hdep ⟨12, .data⟩ (by simp) rfl)
          exact rel_pure _ rfl rfl (by simp [go_sem, e0, e1])
        · refine grd_none rfl ?_
          have e0 := slot_eq (hdep ⟨13, .data⟩ (by simp) rfl)
          exact rel_pure _ rfl rfl (by simp [go_sem, e0])
        · exact grd_no (j := 14) (b := false) rfl (hdep ⟨14, .guard⟩ (by simp) rfl) rfl rfl
        · exact grd_no (j := 14) (b := false) rfl (hdep ⟨14, .guard⟩ (by simp) rfl) rfl rfl
        · exact grd_no (j := 14) (b := false) rfl (hdep ⟨14, .guard⟩ (by simp) rfl) rfl rfl
        · exact grd_no (j := 14) (b := false) rfl (hdep ⟨14, .guard⟩ (by simp) rfl) rfl rfl
        · exact grd_no (j := 14) (b := false) rfl (hdep ⟨14, .guard⟩ (by simp) rfl) rfl rfl
        · exact grd_undef (j := 19) (b := true) rfl (hdep ⟨19, .guard⟩ (by simp) rfl) rfl rfl
        · exact grd_undef (j := 19) (b := true) rfl (hdep ⟨19, .guard⟩ (by simp) rfl) rfl rfl
        · exact grd_undef (j := 19) (b := true) rfl (hdep ⟨19, .guard⟩ (by simp) rfl) rfl rfl
        · exact grd_undef (j := 19) (b := true) rfl (hdep ⟨19, .guard⟩ (by simp) rfl) rfl rfl
        · exact grd_no (j := 14) (b := false) rfl (hdep ⟨14, .guard⟩ (by simp) rfl) rfl rfl
      · intro t op ht hlt; cases hlt
      · intro vs wy hE hvs _
        have k14 : vs 14 = .bool true := hvs 14 (by omega)
        have k24 : vs 24 = undef := hvs 24 (by omega)
        simp only [List.drop_succ_cons, List.drop_zero, putAll, dstAt, List.getElem?_toArray, List.getElem?_cons_zero, List.getElem?_cons_succ, Option.bind_some, Act.put, List.setIfInBounds_toArray, List.set_cons_zero, List.set_cons_succ, k14, k24]
        clear hvs k14 k24
        go_wp2_with fail
        go_ret
        exact ⟨9, rfl, .inr ⟨by decide, HO.out, Fr.of_below (bcall B hE)⟩⟩
  · obtain ⟨a, ha⟩ : ∃ a, numI w1 = some a := by
      cases h1 : numI w1 with
      | none => exact absurd (.inl h1) hcase
      | some a => exact ⟨a, rfl⟩
    obtain ⟨b, hb⟩ : ∃ a, numI w3 = some a := by
      cases h1 : numI w3 with
      | none => exact absurd (.inr h1) hcase
      | some a => exact ⟨a, rfl⟩
    have HN : Hid (∀ (e : Ending) (wx w' : World), numR w1 w3 wx e w' → Below W.heap.size W wx → ∃ v', e = .returned (.tuple #[v', .bool true]) ∧ IntR a b W w' v') := Lib.hid (fun e wx w' hN hE => by
      unfold numR at hN
      rw [ha, hb] at hN
      obtain ⟨v', e1, e2, e3⟩ := hN
      exact ⟨v', e1, e2, fun c hc => Nat.le_trans hE.size (e3 c hc)⟩)
    have HA := Lib.hid (And.intro ha hb)
    clear hcase ha hb
    go_enter Tryz.func59, Tryz.ntmps59
    go_upto_region 1 with fail
    refine wp_region_grd 12 (fun _ => false) (fun q u w' => if q = 6 then ∃ gn, u = .slice (some ⟨gn, 0, none⟩) 2 2 ∧ Bx w' gn 9 #[.string w1, .string w3] else if q = 7 then ∃ v', u = .tuple #[v', .bool true] ∧ IntR a b W w' v' else if q = 8 then ∃ v', u = .tuple #[v', .bool true] ∧ IntR a b W w' v' else if q = 9 then IntR a b W w' u else if q = 11 then IntR a b W w' u else u = [.slice (some ⟨gw, 0, none⟩) 6 6, .pointer (some ⟨gw, 1, none⟩), .string w1, .slice (some ⟨gw, 0, none⟩) 6 6, .pointer (some ⟨gw, 3, none⟩), .string w3, undef, undef, undef, undef, .bool true, undef].getD q undef) (fun _ => false) (fun w' => Below W.heap.size W w') (by kernel_rfl) (by kernel_rfl) (fun _ _ _ _ _ h => h)
      (fun _ _ h e => e.trans (h.mono e.size)) (fun t u a' b' hb h => ?_) (Below.refl _ _).drew ?_ ?_ ?_
    · by_cases h4 : t = 6
      · subst h4
        obtain ⟨gn, e1, e3⟩ := h
        exact ⟨gn, e1, e3.keep hb⟩
      · by_cases h5 : t = 7
        · subst h5
          obtain ⟨v', e1, e3⟩ := h
          exact ⟨v', e1, e3.keep hb⟩
        · by_cases h6 : t = 8
          · subst h6
            obtain ⟨v', e1, e3⟩ := h
            exact ⟨v', e1, e3.keep hb⟩
          · by_cases h7 : t = 9
            · subst h7; exact IntR.keep h hb
            · by_cases h8 : t = 11
              · subst h8; exact IntR.keep h hb
              · rw [if_neg h4, if_neg h5, if_neg h6, if_neg h7, if_neg h8] at h ⊢; exact h
    · intro t op ht hlt hop
      clear hlt
      rcases (by omega : t = 0 ∨ t = 1 ∨ t = 2 ∨ t = 3 ∨ t = 4 ∨ t = 5 ∨ t = 6 ∨ t = 7 ∨ t = 8 ∨ t = 9 ∨ t = 10 ∨ t = 11) with rfl | rfl | rfl | rfl | rfl | rfl | rfl | rfl | rfl | rfl | rfl | rfl
      all_goals simp only [List.getElem?_cons_zero, List.getElem?_cons_succ, Option.some.injEq] at hop
      all_goals subst hop
      all_goals intro a0 wx hE hag hdep
      · refine grd_none rfl ?_
        have e0 := slot_eq (hag 1 rfl)
        exact rel_pure _ rfl rfl (by simp [go_sem, e0])
      · refine grd_none rfl ?_
        have e0 := slot_eq (hdep ⟨0, .data⟩ (by simp) rfl)
        exact rel_pure _ rfl rfl (by simp [go_sem, e0])
      · refine grd_none rfl ?_
        have e0 := slot_eq (hdep ⟨1, .data⟩ (by simp) rfl)
        have hq := (x.keep hE).all.1
        exact rel_pure _ rfl rfl (by simp [go_sem, e0, hq])
      · refine grd_none rfl ?_
        have e0 := slot_eq (hag 1 rfl)
        exact rel_pure _ rfl rfl (by simp [go_sem, e0])
      · refine grd_none rfl ?_
        have e0 := slot_eq (hdep ⟨3, .data⟩ (by simp) rfl)
        exact rel_pure _ rfl rfl (by simp [go_sem, e0])
      · refine grd_none rfl ?_
        have e0 := slot_eq (hdep ⟨4, .data⟩ (by simp) rfl)
        have hq := (x.keep hE).all.1
        exact rel_pure _ rfl rfl (by simp [go_sem, e0, hq])
      · refine grd_none rfl ?_
        have e0 := slot_eq (hdep ⟨2, .data⟩ (by simp) rfl)
        have e1 := slot_eq (hdep ⟨5, .data⟩ (by simp) rfl)
        exact rel_val (v := .slice (some ⟨wx.heap.size, 0, none⟩) 2 2) (w' := wx.alloc (.cells #[.string w1, .string w3] 9)) (by simp [go_sem, e0, e1]) ⟨wx.heap.size, rfl, Bx.new _ _ _⟩ ((Below.refl _ _).alloc (Nat.le_refl _) _) (fun h => by cases h)
      · refine grd_none rfl ?_
        obtain ⟨gn, e0, xn⟩ := hdep ⟨6, .data⟩ (by simp) rfl
        have e0 := slot_eq e0
        refine rel_call (f := 73) (args := #[.slice (some ⟨gn, 0, none⟩) 2 2]) (run_go_call Tryz.func73 (by kernel_rfl) (by kernel_rfl) _ _ _ _ _ _ _ _ _ _ (by simp [Act.eval, e0])) rfl ?_
        refine (numbers2 w1 w3 gn wx xn hs1 hs3).mono ?_
        rintro e w' ⟨hN, hb⟩
        obtain ⟨v', e1, r1⟩ := HN.out _ _ _ hN hE
        exact ⟨_, e1, ⟨v', rfl, r1⟩, hb⟩
      · refine grd_none rfl ?_
        obtain ⟨v', e1, r1⟩ := hdep ⟨7, .data⟩ (by simp) rfl
        have e1 := slot_eq e1
        exact rel_val (v := .tuple #[v', .bool true]) (w' := wx) (by simp [go_sem, e1]) ⟨v', rfl, r1⟩ (Below.refl _ _) (fun h => by cases h)
      · refine grd_none rfl ?_
        obtain ⟨v', e1, r1⟩ := hdep ⟨8, .data⟩ (by simp) rfl
        have e1 := slot_eq e1
        exact rel_val (v := v') (w' := wx) (by simp [go_sem, e1]) r1 (Below.refl _ _) (fun h => by cases h)
      · refine grd_none rfl ?_
        obtain ⟨v', e1, r1⟩ := hdep ⟨8, .data⟩ (by simp) rfl
        have e1 := slot_eq e1
        exact rel_val (v := .bool true) (w' := wx) (by simp [go_sem, e1]) rfl (Below.refl _ _) (fun h => by cases h)
      · refine grd_none rfl ?_
        obtain ⟨v', e1, r1⟩ : ∃ v', slotOf _ a0 9 = v' ∧ IntR a b W wx v' := ⟨_, rfl, hdep ⟨9, .data⟩ (by simp) rfl⟩
        have e1 := slot_eq e1
        exact rel_val (v := v') (w' := wx) (by simp [go_sem, e1]) r1 (Below.refl _ _) (fun h => by cases h)
    · intro t op ht hlt; cases hlt
    · intro vs wn B hvs _
      have k10 : vs 10 = .bool true := hvs 10 (by omega)
      obtain ⟨vi, k11, hvi⟩ : ∃ v', vs 11 = v' ∧ IntR a b W wn v' := ⟨_, rfl, hvs 11 (by omega)⟩
      simp only [List.drop_succ_cons, List.drop_zero, putAll, dstAt, List.getElem?_toArray, List.getElem?_cons_zero, List.getElem?_cons_succ, Option.bind_some, Act.put, List.setIfInBounds_toArray, List.set_cons_zero, List.set_cons_succ, k10, k11]
      clear hvs k10 k11 HN q f l
      have xw := x.keep B
      have xpw := xp.keep B
      obtain ⟨gi, ci, rfl, hgi, _, _, hci, _⟩ := hvi.1.open (by omega)
      have HI : Hid (∀ wx : World, Below wn.heap.size wn wx → wx.cell? ⟨gi, 0, none⟩ = some (.int .i64 a) ∧ wx.cell? ⟨gi, 1, none⟩ = some (.int .i64 b)) := Lib.hid (fun wx hE => ⟨(hE.cell (p := ⟨gi, 0, none⟩) hgi).trans (hci 0 0 (by omega) (by omega)), (hE.cell (p := ⟨gi, 1, none⟩) hgi).trans (hci 1 0 (by omega) (by omega))⟩)
      have HGI : Hid (W.heap.size ≤ gi ∧ gi < wn.heap.size) := Lib.hid ⟨hvi.2 gi rfl, hgi⟩
      clear hvi hci hgi
      by_cases hab0 : a = (n0 : Int) + 1
      · have hab : (a == (n0 : Int) + 1) = true := by simpa using hab0
        by_cases h5 : w5 = wOpen
        · have hw5 : (w5.toList == [111, 112, 101, 110]) = true := by rw [list_beq]; exact decide_eq_true h5
          go_upto_region 2 with fail
          refine wp_region_grd 25 (fun _ => false) (fun q u w' => u = [.bool true, .bool false, .bool false, .slice (some ⟨gi, 0, none⟩) 2 ci, .pointer (some ⟨gi, 0, none⟩), .int .i64 a, .pointer (some ⟨p, 0, none⟩), .pointer (some ⟨p, 0, none⟩), .pointer (some ⟨p, 0, none⟩), .slice na n0 nc, .int .i64 (n0 : Int), .int .i64 ((n0 : Int) + 1), .bool false, .bool false, .bool false, .slice (some ⟨gw, 0, none⟩) 6 6, .pointer (some ⟨gw, 5, none⟩), .string w5, .bool false, .bool false, undef, undef, undef, undef, .bool false].getD q undef) (fun _ => false) (fun w' => Below wn.heap.size wn w') (by kernel_rfl) (by kernel_rfl) (fun _ _ _ _ _ h => h)
            (fun _ _ h e => e.trans (h.mono e.size)) (fun t u a' b' hb h => ?_) (Below.refl _ _).drew ?_ ?_ ?_
          · exact h
          · intro t op ht hlt hop
            clear hlt
            rcases (by omega : t = 0 ∨ t = 1 ∨ t = 2 ∨ t = 3 ∨ t = 4 ∨ t = 5 ∨ t = 6 ∨ t = 7 ∨ t = 8 ∨ t = 9 ∨ t = 10 ∨ t = 11 ∨ t = 12 ∨ t = 13 ∨ t = 14 ∨ t = 15 ∨ t = 16 ∨ t = 17 ∨ t = 18 ∨ t = 19 ∨ t = 20 ∨ t = 21 ∨ t = 22 ∨ t = 23 ∨ t = 24) with rfl | rfl | rfl | rfl | rfl | rfl | rfl | rfl | rfl | rfl | rfl | rfl | rfl | rfl | rfl | rfl | rfl | rfl | rfl | rfl | rfl | rfl | rfl | rfl | rfl
            all_goals simp only [List.getElem?_cons_zero, List.getElem?_cons_succ, Option.some.injEq] at hop
            all_goals subst hop
            all_goals intro a wx hE hag hdep
            · refine grd_none rfl ?_
              have e0 := slot_eq (hag 8 rfl)
              exact rel_pure _ rfl rfl (by simp [go_sem, e0])
            · refine grd_none rfl ?_
              have e0 := slot_eq (hdep ⟨0, .data⟩ (by simp) rfl)
              exact rel_pure _ rfl rfl (by simp [go_sem, e0])
            · refine grd_none rfl ?_
              have e0 := slot_eq (hdep ⟨1, .data⟩ (by simp) rfl)
              exact rel_pure _ rfl rfl (by simp [go_sem, e0])
            · refine grd_yes (j := 2) (b := false) rfl (hdep ⟨2, .guard⟩ (by simp) rfl) ?_
              have e0 := slot_eq (hag 7 rfl)
              exact rel_pure _ rfl rfl (by simp [go_sem, e0])
            · refine grd_yes (j := 2) (b := false) rfl (hdep ⟨2, .guard⟩ (by simp) rfl) ?_
              have e0 := slot_eq (hdep ⟨3, .data⟩ (by simp) rfl)
              exact rel_pure _ rfl rfl (by simp [go_sem, e0])
            · refine grd_yes (j := 2) (b := false) rfl (hdep ⟨2, .guard⟩ (by simp) rfl) ?_
              have e0 := slot_eq (hdep ⟨4, .data⟩ (by simp) rfl)
              have hq := (HI.out wx hE).1
              exact rel_pure _ rfl rfl (by simp [go_sem, e0, hq])
            · refine grd_yes (j := 2) (b := false) rfl (hdep ⟨2, .guard⟩ (by simp) rfl) ?_
              have e0 := slot_eq (hag 0 rfl)
              exact rel_pure _ rfl rfl (by simp [go_sem, e0])
            · refine grd_yes (j := 2) (b := false) rfl (hdep ⟨2, .guard⟩ (by simp) rfl) ?_
              have e0 := slot_eq (hdep ⟨6, .data⟩ (by simp) rfl)
              exact rel_pure _ rfl rfl (by simp [go_sem, e0])
            · refine grd_yes (j := 2) (b := false) rfl (hdep ⟨2, .guard⟩ (by simp) rfl) ?_
              have e0 := slot_eq (hdep ⟨7, .data⟩ (by simp) rfl)
              exact rel_pure _ rfl rfl (by simp [go_sem, e0])
            · refine grd_yes (j := 2) (b := false) rfl (hdep ⟨2, .guard⟩ (by simp) rfl) ?_
              have e0 := slot_eq (hdep ⟨8, .data⟩ (by simp) rfl)
              have hq := (xpw.keep hE).all.1
              exact rel_pure _ rfl rfl (by simp [go_sem, e0, hq])
            · refine grd_yes (j := 2) (b := false) rfl (hdep ⟨2, .guard⟩ (by simp) rfl) ?_
              have e0 := slot_eq (hdep ⟨9, .data⟩ (by simp) rfl)
              exact rel_pure _ rfl rfl (by simp [go_sem, e0])
            · refine grd_yes (j := 2) (b := false) rfl (hdep ⟨2, .guard⟩ (by simp) rfl) ?_
              have e0 := slot_eq (hdep ⟨10, .data⟩ (by simp) rfl)
              exact rel_pure _ rfl rfl (by simp [go_sem, e0, hn1])
            · refine grd_yes (j := 2) (b := false) rfl (hdep ⟨2, .guard⟩ (by simp) rfl) ?_
              have e0 := slot_eq (hdep ⟨5, .data⟩ (by simp) rfl)
              have e1 := slot_eq (hdep ⟨11, .data⟩ (by simp) rfl)
              exact rel_pure _ rfl rfl (by simp [go_sem, e0, e1, hab0])
            · refine grd_none rfl ?_
              have e0 := slot_eq (hdep ⟨2, .data⟩ (by simp) rfl)
              have e1 := slot_eq (hdep ⟨12, .data⟩ (by simp) rfl)
              exact rel_pure _ rfl rfl (by simp [go_sem, e0, e1])
            · refine grd_none rfl ?_
              have e0 := slot_eq (hdep ⟨13, .data⟩ (by simp) rfl)
              exact rel_pure _ rfl rfl (by simp [go_sem, e0])
            · refine grd_yes (j := 14) (b := false) rfl (hdep ⟨14, .guard⟩ (by simp) rfl) ?_
              have e0 := slot_eq (hag 1 rfl)
              exact rel_pure _ rfl rfl (by simp [go_sem, e0])
            · refine grd_yes (j := 14) (b := false) rfl (hdep ⟨14, .guard⟩ (by simp) rfl) ?_
              have e0 := slot_eq (hdep ⟨15, .data⟩ (by simp) rfl)
              exact rel_pure _ rfl rfl (by simp [go_sem, e0])
            · refine grd_yes (j := 14) (b := false) rfl (hdep ⟨14, .guard⟩ (by simp) rfl) ?_
              have e0 := slot_eq (hdep ⟨16, .data⟩ (by simp) rfl)
              have hq := (xw.keep hE).all.1
              exact rel_pure _ rfl rfl (by simp [go_sem, e0, hq])
            · refine grd_yes (j := 14) (b := false) rfl (hdep ⟨14, .guard⟩ (by simp) rfl) ?_
              have e0 := slot_eq (hdep ⟨17, .data⟩ (by simp) rfl)
              exact rel_pure _ rfl rfl (by simp [go_sem, e0, hw5])
            · refine grd_yes (j := 14) (b := false) rfl (hdep ⟨14, .guard⟩ (by simp) rfl) ?_
              have e0 := slot_eq (hdep ⟨18, .data⟩ (by simp) rfl)
              exact rel_pure _ rfl rfl (by simp [go_sem, e0])
            · exact grd_no (j := 19) (b := true) rfl (hdep ⟨19, .guard⟩ (by simp) rfl) rfl rfl
            · exact grd_no (j := 19) (b := true) rfl (hdep ⟨19, .guard⟩ (by simp) rfl) rfl rfl
            · exact grd_no (j := 19) (b := true) rfl (hdep ⟨19, .guard⟩ (by simp) rfl) rfl rfl
            · exact grd_no (j := 19) (b := true) rfl (hdep ⟨19, .guard⟩ (by simp) rfl) rfl rfl
            · refine grd_yes (j := 14) (b := false) rfl (hdep ⟨14, .guard⟩ (by simp) rfl) ?_
              have e0 := slot_eq (hdep ⟨19, .data⟩ (by simp) rfl)
              have e1 := slot_eq (hdep ⟨23, .data⟩ (by simp) rfl)
              exact rel_pure _ rfl rfl (by simp [go_sem, e0, e1])
          · intro t op ht hlt; cases hlt
          · intro vs wy hE hvs _
            have k14 : vs 14 = .bool false := hvs 14 (by omega)
            have k24 : vs 24 = .bool false := hvs 24 (by omega)
            simp only [List.drop_succ_cons, List.drop_zero, putAll, dstAt, List.getElem?_toArray, List.getElem?_cons_zero, List.getElem?_cons_succ, Option.bind_some, Act.put, List.setIfInBounds_toArray, List.set_cons_zero, List.set_cons_succ, k14, k24]
            clear hvs k14 k24
            have B2 := bcall B hE
            have xg := xw.keep hE
            obtain ⟨r1, hr1⟩ : ∃ r, r = (if addE σ w2 b w4 text = 0 then (σ.notes.length : Int) + 1 else 0) := ⟨_, rfl⟩
            obtain ⟨r2, hr2⟩ : ∃ r, r = addE σ w2 b w4 text := ⟨_, rfl⟩
            have HADD : Hid (∀ wx, Below W.heap.size W wx → Calls Tryz.prog 17 #[.pointer (some ⟨p, 0, none⟩), .string w2, .int .i64 b, .string w4, .string text] wx fun e w' => e = .returned (.tuple #[.int .i64 r1, .int .i64 r2]) ∧ VGo wx p (addN σ w2 b w4 text) F w') := Lib.hid (fun wx hb => by
              rw [hr1, hr2]
              exact conform_Add p σ F _ m rv w2 b w4 text wx (H.out.keep hb) Hwf.out)
            have HFG : Hid (¬ F gi) := Lib.hid (fun hF => by have := H.out.flt gi hF; have := HGI.out.1; omega)
            have HR2 := Lib.hid hr2
            clear hr1 hr2
            go_upto_region 4 with fail
            refine wp_region_inv 17 (fun q u => u = [.pointer (some ⟨p, 0, none⟩), .slice (some ⟨gw, 0, none⟩) 6 6, .pointer (some ⟨gw, 2, none⟩), .string w2, .slice (some ⟨gi, 0, none⟩) 2 ci, .pointer (some ⟨gi, 1, none⟩), .int .i64 b, .slice (some ⟨gw, 0, none⟩) 6 6, .pointer (some ⟨gw, 4, none⟩), .string w4, .string text, .tuple #[.int .i64 r1, .int .i64 r2], .tuple #[.int .i64 r1, .int .i64 r2], .int .i64 r1, .int .i64 r2, .int .i64 r1, .int .i64 r2].getD q undef) (fun d vs w' => Bx w' gw 9 #[.string w0, .string w1, .string w2, .string w3, .string w4, .string w5] ∧ (w'.cell? ⟨gi, 0, none⟩ = some (.int .i64 a) ∧ w'.cell? ⟨gi, 1, none⟩ = some (.int .i64 b)) ∧ (if d 11 then VGo W p (addN σ w2 b w4 text) F w' else Below W.heap.size W w')) (by kernel_rfl) (by kernel_rfl) ?_ ?_ ?_
            · intro vs
              exact ⟨xg.keep ((Below.refl _ _).drew), HI.out _ (hE.trans ((Below.refl _ _).drew.mono hE.size)), (B2.trans ((Below.refl _ _).drew.mono B2.size))⟩
            · intro i o hi ho
              rcases (by omega : i = 0 ∨ i = 1 ∨ i = 2 ∨ i = 3 ∨ i = 4 ∨ i = 5 ∨ i = 6 ∨ i = 7 ∨ i = 8 ∨ i = 9 ∨ i = 10 ∨ i = 11 ∨ i = 12 ∨ i = 13 ∨ i = 14 ∨ i = 15 ∨ i = 16) with rfl | rfl | rfl | rfl | rfl | rfl | rfl | rfl | rfl | rfl | rfl | rfl | rfl | rfl | rfl | rfl | rfl
              all_goals simp only [List.getElem?_cons_zero, List.getElem?_cons_succ, Option.some.injEq] at ho
              all_goals subst ho
              all_goals intro d a0 wx hI hag hdep hun
              · have e0 := slot_eq (hag 0 rfl)
                exact inv_val (v := .pointer (some ⟨p, 0, none⟩)) (by simp [go_sem, e0]) (fun h => (by cases h)) rfl hI
              · have e0 := slot_eq (hag 1 rfl)
                exact inv_val (v := .slice (some ⟨gw, 0, none⟩) 6 6) (by simp [go_sem, e0]) (fun h => (by cases h)) rfl hI
              · have e0 := slot_eq (hdep ⟨1, .data⟩ (by simp) rfl).1
                exact inv_val (v := .pointer (some ⟨gw, 2, none⟩)) (by simp [go_sem, e0]) (fun h => (by cases h)) rfl hI
              · have e0 := slot_eq (hdep ⟨2, .data⟩ (by simp) rfl).1
                have hq := hI.1.all.1
                exact inv_val (v := .string w2) (by simp [go_sem, e0, hq]) (fun h => (by cases h)) rfl hI
              · have e0 := slot_eq (hag 7 rfl)
                exact inv_val (v := .slice (some ⟨gi, 0, none⟩) 2 ci) (by simp [go_sem, e0]) (fun h => (by cases h)) rfl hI
              · have e0 := slot_eq (hdep ⟨4, .data⟩ (by simp) rfl).1
                exact inv_val (v := .pointer (some ⟨gi, 1, none⟩)) (by simp [go_sem, e0]) (fun h => (by cases h)) rfl hI
              · have e0 := slot_eq (hdep ⟨5, .data⟩ (by simp) rfl).1
                have hq := hI.2.1.2
                exact inv_val (v := .int .i64 b) (by simp [go_sem, e0, hq]) (fun h => (by cases h)) rfl hI
              · have e0 := slot_eq (hag 1 rfl)
                exact inv_val (v := .slice (some ⟨gw, 0, none⟩) 6 6) (by simp [go_sem, e0]) (fun h => (by cases h)) rfl hI
              · have e0 := slot_eq (hdep ⟨7, .data⟩ (by simp) rfl).1
                exact inv_val (v := .pointer (some ⟨gw, 4, none⟩)) (by simp [go_sem, e0]) (fun h => (by cases h)) rfl hI
              · have e0 := slot_eq (hdep ⟨8, .data⟩ (by simp) rfl).1
                have hq := hI.1.all.1
                exact inv_val (v := .string w4) (by simp [go_sem, e0, hq]) (fun h => (by cases h)) rfl hI
              · have e0 := slot_eq (hag 2 rfl)
                exact inv_val (v := .string text) (by simp [go_sem, e0]) (fun h => (by cases h)) rfl hI
              · have e0 := slot_eq (hdep ⟨0, .data⟩ (by simp) rfl).1
                have e1 := slot_eq (hdep ⟨3, .data⟩ (by simp) rfl).1
                have e2 := slot_eq (hdep ⟨6, .data⟩ (by simp) rfl).1
                have e3 := slot_eq (hdep ⟨9, .data⟩ (by simp) rfl).1
                have e4 := slot_eq (hdep ⟨10, .data⟩ (by simp) rfl).1
                refine inv_call (f := 17) (args := #[.pointer (some ⟨p, 0, none⟩), .string w2, .int .i64 b, .string w4, .string text]) (run_go_call Tryz.func17 (by kernel_rfl) (by kernel_rfl) _ _ _ _ _ _ _ _ _ _ (by simp [Act.eval, e0, e1, e2, e3, e4])) (fun h => (by cases h)) ?_
                obtain ⟨i1, i2, i3⟩ := hI
                simp only [hun, Bool.false_eq_true, if_false] at i3
                refine (HADD.out wx i3).mono ?_
                rintro e w' ⟨rfl, g1⟩
                have fr := g1.fr
                refine ⟨_, rfl, rfl, (fr.block gw i1.lt Hgw.out).trans i1, ⟨?_, ?_⟩, ?_⟩
                · exact (fr_cell fr HFG.out i2.1).trans i2.1
                · exact (fr_cell fr HFG.out i2.2).trans i2.2
                · show VGo W p _ F w'
                  exact g1.pre i3
              · have e0 := slot_eq (hdep ⟨11, .data⟩ (by simp) rfl).1
                exact inv_val (v := .tuple #[.int .i64 r1, .int .i64 r2]) (by simp [go_sem, e0]) (fun h => (by cases h)) rfl hI
              · have e0 := slot_eq (hdep ⟨12, .data⟩ (by simp) rfl).1
                exact inv_val (v := .int .i64 r1) (by simp [go_sem, e0]) (fun h => (by cases h)) rfl hI
              · have e0 := slot_eq (hdep ⟨12, .data⟩ (by simp) rfl).1
                exact inv_val (v := .int .i64 r2) (by simp [go_sem, e0]) (fun h => (by cases h)) rfl hI
              · have e0 := slot_eq (hdep ⟨13, .data⟩ (by simp) rfl).1
                exact inv_val (v := .int .i64 r1) (by simp [go_sem, e0]) (fun h => (by cases h)) rfl hI
              · have e0 := slot_eq (hdep ⟨14, .data⟩ (by simp) rfl).1
                exact inv_val (v := .int .i64 r2) (by simp [go_sem, e0]) (fun h => (by cases h)) rfl hI
            · intro d vs w6 hd hI hA
              obtain ⟨x6, hi6, g6⟩ := hI
              rw [hd 11 (by omega), if_pos rfl] at g6
              have k0 : vs 0 = .pointer (some ⟨p, 0, none⟩) := hA 0 (by omega)
              have k1 : vs 1 = .slice (some ⟨gw, 0, none⟩) 6 6 := hA 1 (by omega)
              have k2 : vs 2 = .pointer (some ⟨gw, 2, none⟩) := hA 2 (by omega)
              have k3 : vs 3 = .string w2 := hA 3 (by omega)
              have k4 : vs 4 = .slice (some ⟨gi, 0, none⟩) 2 ci := hA 4 (by omega)
              have k5 : vs 5 = .pointer (some ⟨gi, 1, none⟩) := hA 5 (by omega)
              have k6 : vs 6 = .int .i64 b := hA 6 (by omega)
              have k7 : vs 7 = .slice (some ⟨gw, 0, none⟩) 6 6 := hA 7 (by omega)
              have k8 : vs 8 = .pointer (some ⟨gw, 4, none⟩) := hA 8 (by omega)
              have k9 : vs 9 = .string w4 := hA 9 (by omega)
              have k10 : vs 10 = .string text := hA 10 (by omega)
              have k11 : vs 11 = .tuple #[.int .i64 r1, .int .i64 r2] := hA 11 (by omega)
              have k12 : vs 12 = .tuple #[.int .i64 r1, .int .i64 r2] := hA 12 (by omega)
              have k13 : vs 13 = .int .i64 r1 := hA 13 (by omega)
              have k14 : vs 14 = .int .i64 r2 := hA 14 (by omega)
              have k15 : vs 15 = .int .i64 r1 := hA 15 (by omega)
              have k16 : vs 16 = .int .i64 r2 := hA 16 (by omega)
              simp only [putAll, dstAt, List.getElem?_toArray, List.getElem?_cons_zero, List.getElem?_cons_succ, Option.bind_some, Option.bind_eq_bind, Act.put, List.setIfInBounds_toArray, List.set_cons_zero, List.set_cons_succ, k0, k1, k2, k3, k4, k5, k6, k7, k8, k9, k10, k11, k12, k13, k14, k15, k16]
              clear hA hd k0 k1 k2 k3 k4 k5 k6 k7 k8 k9 k10 k11 k12 k13 k14 k15 k16
              by_cases he : addE σ w2 b w4 text = 0
              · have HO : Hid (noteO σ w1 w2 w3 w4 w5 text = some (opnS (addS σ w2 b w4 text) n0 true)) := Lib.hid (by
                  unfold noteO
                  rw [HA.out.1, HA.out.2]
                  dsimp only
                  rw [if_neg (by rw [← Hn.out]; rintro (h | ⟨h, h'⟩); exact h hab0; exact h h5), if_neg (by rw [he]; simp), ← Hn.out, decide_eq_true h5])
                obtain rfl : r2 = 0 := by rw [HR2.out]; exact he
                have hl : (addS σ w2 b w4 text).notes.length = n0 + 1 := by show (σ.notes ++ [_]).length = _; rw [List.length_append, ← Hn.out]; rfl
                rw [show addN σ w2 b w4 text = addS σ w2 b w4 text by unfold addN; rw [if_pos he]] at g6
                obtain ⟨F', vn', m', rv', V, fr6, hs6⟩ := g6
                obtain ⟨gn, cap, eg, _⟩ := V.at (k := n0) (by rw [hl]; omega)
                rw [hl] at eg
                subst eg
                have xp6 := V.bx
                have HV := Lib.hid (And.intro V (And.intro fr6 hs6))
                have hw7 : IntKind.i64.wrap (a - 1) = (n0 : Int) := by rw [IntKind.wrap_i64]; omega
                have HIb : Hid (∀ wx : World, Below w6.heap.size w6 wx → wx.cell? ⟨gi, 0, none⟩ = some (.int .i64 a) ∧ wx.cell? ⟨gi, 1, none⟩ = some (.int .i64 b)) := Lib.hid (fun wx hE => ⟨(hE.cell (p := ⟨gi, 0, none⟩) (World.block_lt_of_cell? w6 _ hi6.1)).trans hi6.1, (hE.cell (p := ⟨gi, 1, none⟩) (World.block_lt_of_cell? w6 _ hi6.2)).trans hi6.2⟩)
                clear HI V fr6 hs6
                have HI := HIb
                go_upto_region 7 with fail
                refine wp_region_grd 15 (fun _ => false) (fun q u w' => u = [.pointer (some ⟨p, 0, none⟩), .pointer (some ⟨p, 0, none⟩), .pointer (some ⟨p, 0, none⟩), .slice (some ⟨gn, 0, none⟩) (n0 + 1) cap, .slice (some ⟨gi, 0, none⟩) 2 ci, .pointer (some ⟨gi, 0, none⟩), .int .i64 a, .int .i64 (n0 : Int), .slice (some ⟨gw, 0, none⟩) 6 6, .pointer (some ⟨gw, 5, none⟩), .string w5, .bool true, .pointer (some ⟨gn, n0 * 9, none⟩), .pointer (some ⟨gn, n0 * 9, none⟩), .pointer (some ⟨gn, n0 * 9 + 5, none⟩)].getD q undef) (fun _ => false) (fun w' => Below w6.heap.size w6 w') (by kernel_rfl) (by kernel_rfl) (fun _ _ _ _ _ h => h)
                  (fun _ _ h e => e.trans (h.mono e.size)) (fun t u a' b' hb h => ?_) (Below.refl _ _).drew ?_ ?_ ?_
                · exact h
                · intro t op ht hlt hop
                  clear hlt
                  rcases (by omega : t = 0 ∨ t = 1 ∨ t = 2 ∨ t = 3 ∨ t = 4 ∨ t = 5 ∨ t = 6 ∨ t = 7 ∨ t = 8 ∨ t = 9 ∨ t = 10 ∨ t = 11 ∨ t = 12 ∨ t = 13 ∨ t = 14) with rfl | rfl | rfl | rfl | rfl | rfl | rfl | rfl | rfl | rfl | rfl | rfl | rfl | rfl | rfl
                  all_goals simp only [List.getElem?_cons_zero, List.getElem?_cons_succ, Option.some.injEq] at hop
                  all_goals subst hop
                  all_goals intro a wx hE hag hdep
                  · refine grd_none rfl ?_
                    have e0 := slot_eq (hag 0 rfl)
                    exact rel_pure _ rfl rfl (by simp [go_sem, e0])
                  · refine grd_none rfl ?_
                    have e0 := slot_eq (hdep ⟨0, .data⟩ (by simp) rfl)
                    exact rel_pure _ rfl rfl (by simp [go_sem, e0])
                  · refine grd_none rfl ?_
                    have e0 := slot_eq (hdep ⟨1, .data⟩ (by simp) rfl)
                    exact rel_pure _ rfl rfl (by simp [go_sem, e0])
                  · refine grd_none rfl ?_
                    have e0 := slot_eq (hdep ⟨2, .data⟩ (by simp) rfl)
                    have hq := (xp6.keep hE).all.1
                    exact rel_pure _ rfl rfl (by simp [go_sem, e0, hq])
                  · refine grd_none rfl ?_
                    have e0 := slot_eq (hag 7 rfl)
                    exact rel_pure _ rfl rfl (by simp [go_sem, e0])
                  · refine grd_none rfl ?_
                    have e0 := slot_eq (hdep ⟨4, .data⟩ (by simp) rfl)
                    exact rel_pure _ rfl rfl (by simp [go_sem, e0])
                  · refine grd_none rfl ?_
                    have e0 := slot_eq (hdep ⟨5, .data⟩ (by simp) rfl)
                    have hq := (HI.out wx hE).1
                    exact rel_pure _ rfl rfl (by simp [go_sem, e0, hq])
                  · refine grd_none rfl ?_
                    have e0 := slot_eq (hdep ⟨6, .data⟩ (by simp) rfl)
                    exact rel_pure _ rfl rfl (by simp [go_sem, e0, hw7])
                  · refine grd_none rfl ?_
                    have e0 := slot_eq (hag 1 rfl)
                    exact rel_pure _ rfl rfl (by simp [go_sem, e0])
                  · refine grd_none rfl ?_
                    have e0 := slot_eq (hdep ⟨8, .data⟩ (by simp) rfl)
                    exact rel_pure _ rfl rfl (by simp [go_sem, e0])
                  · refine grd_none rfl ?_
                    have e0 := slot_eq (hdep ⟨9, .data⟩ (by simp) rfl)
                    have hq := (x6.keep hE).all.1
                    exact rel_pure _ rfl rfl (by simp [go_sem, e0, hq])
                  · refine grd_none rfl ?_
                    have e0 := slot_eq (hdep ⟨10, .data⟩ (by simp) rfl)
                    exact rel_pure _ rfl rfl (by simp [go_sem, e0, hw5])
                  · refine grd_none rfl ?_
                    have e0 := slot_eq (hdep ⟨3, .data⟩ (by simp) rfl)
                    have e1 := slot_eq (hdep ⟨7, .data⟩ (by simp) rfl)
                    exact rel_pure _ rfl rfl (by simp [go_sem, e0, e1, show ¬ ((n0 : Int) + 1 ≤ (n0 : Int)) by omega])
                  · refine grd_none rfl ?_
                    have e0 := slot_eq (hdep ⟨12, .data⟩ (by simp) rfl)
                    exact rel_pure _ rfl rfl (by simp [go_sem, e0])
                  · refine grd_none rfl ?_
                    have e0 := slot_eq (hdep ⟨13, .data⟩ (by simp) rfl)
                    exact rel_pure _ rfl rfl (by simp [go_sem, e0])
                · intro t op ht hlt; cases hlt
                · intro vs w7 hE7 hvs _
                  have k11 : vs 11 = .bool true := hvs 11 (by omega)
                  have k14 : vs 14 = .pointer (some ⟨gn, n0 * 9 + 5, none⟩) := hvs 14 (by omega)
                  simp only [List.drop_succ_cons, List.drop_zero, putAll, dstAt, List.getElem?_toArray, List.getElem?_cons_zero, List.getElem?_cons_succ, Option.bind_some, Act.put, List.setIfInBounds_toArray, List.set_cons_zero, List.set_cons_succ, k11, k14]
                  clear hvs k11 k14
                  have V7 := HV.out.1.keep hE7
                  obtain ⟨gn2, cap2, eg, hg, hfz, c0, c1, c2, c3, c4, c5, c6, c7, c8⟩ := V7.at (k := n0) (by rw [hl]; omega)
                  rw [hl] at eg
                  cases eg
                  have HV7 := Lib.hid V7
                  have Hb7 := Lib.hid hE7
                  clear c0 c1 c2 c3 c4 c6 c7 c8 V7 hE7 xp6 HI HIb
                  go_upto_region 8 with fail
                  refine name_world ?_
                  intro w8 hw8
                  have V8 := Lib.hid (HV7.out.opn (k := n0) (by rw [hl]; omega) true)
                  have F8 := Lib.hid ((HV.out.2.1.call Hb7.out).trans (HV7.out.opn_fr (k := n0) true) (fun b e => by
                    rcases HV.out.2.2 b e with e | e
                    · exact .inl e
                    · exact .inr e))
                  rw [← hw8] at V8 F8
                  clear hw8 c5 hfz hg
                  go_wp2_with fail
                  go_ret
                  exact ⟨0, rfl, .inl ⟨rfl, _, HO.out, F', _, m', rv', V8.out, F8.out, HV.out.2.2⟩⟩
              · have HO : Hid (noteO σ w1 w2 w3 w4 w5 text = none) := Lib.hid (by
                  unfold noteO
                  rw [HA.out.1, HA.out.2]
                  dsimp only
                  rw [if_neg (by rw [← Hn.out]; rintro (h | ⟨h, h'⟩); exact h hab0; exact h h5), if_pos he])
                have hr : r2 ≠ 0 := by rw [HR2.out]; exact he
                have hr' : (r2 == 0) = false := by simpa using hr
                have Hr := Lib.hid hr
                have HG := Lib.hid g6.fr
                clear g6
                go_wp2_with fail
                go_ret
                exact ⟨r2, rfl, .inr ⟨Hr.out, HO.out, HG.out⟩⟩
        · have hw5 : (w5.toList == [111, 112, 101, 110]) = false := by rw [list_beq]; exact decide_eq_false h5
          by_cases h6 : w5 = wClosed
          · have hw6 : (w5.toList == [99, 108, 111, 115, 101, 100]) = true := by rw [list_beq]; exact decide_eq_true h6
            go_upto_region 2 with fail
            refine wp_region_grd 25 (fun _ => false) (fun q u w' => u = [.bool true, .bool false, .bool false, .slice (some ⟨gi, 0, none⟩) 2 ci, .pointer (some ⟨gi, 0, none⟩), .int .i64 a, .pointer (some ⟨p, 0, none⟩), .pointer (some ⟨p, 0, none⟩), .pointer (some ⟨p, 0, none⟩), .slice na n0 nc, .int .i64 (n0 : Int), .int .i64 ((n0 : Int) + 1), .bool false, .bool false, .bool false, .slice (some ⟨gw, 0, none⟩) 6 6, .pointer (some ⟨gw, 5, none⟩), .string w5, .bool true, .bool true, .slice (some ⟨gw, 0, none⟩) 6 6, .pointer (some ⟨gw, 5, none⟩), .string w5, .bool false, .bool false].getD q undef) (fun _ => false) (fun w' => Below wn.heap.size wn w') (by kernel_rfl) (by kernel_rfl) (fun _ _ _ _ _ h => h)
              (fun _ _ h e => e.trans (h.mono e.size)) (fun t u a' b' hb h => ?_) (Below.refl _ _).drew ?_ ?_ ?_
            · exact h
            · intro t op ht hlt hop
              clear hlt
              rcases (by omega : t = 0 ∨ t = 1 ∨ t = 2 ∨ t = 3 ∨ t = 4 ∨ t = 5 ∨ t = 6 ∨ t = 7 ∨ t = 8 ∨ t = 9 ∨ t = 10 ∨ t = 11 ∨ t = 12 ∨ t = 13 ∨ t = 14 ∨ t = 15 ∨ t = 16 ∨ t = 17 ∨ t = 18 ∨ t = 19 ∨ t = 20 ∨ t = 21 ∨ t = 22 ∨ t = 23 ∨ t = 24) with rfl | rfl | rfl | rfl | rfl | rfl | rfl | rfl | rfl | rfl | rfl | rfl | rfl | rfl | rfl | rfl | rfl | rfl | rfl | rfl | rfl | rfl | rfl | rfl | rfl
              all_goals simp only [List.getElem?_cons_zero, List.getElem?_cons_succ, Option.some.injEq] at hop
              all_goals subst hop
              all_goals intro a wx hE hag hdep
              · refine grd_none rfl ?_
                have e0 := slot_eq (hag 8 rfl)
                exact rel_pure _ rfl rfl (by simp [go_sem, e0])
              · refine grd_none rfl ?_
                have e0 := slot_eq (hdep ⟨0, .data⟩ (by simp) rfl)
                exact rel_pure _ rfl rfl (by simp [go_sem, e0])
              · refine grd_none rfl ?_
                have e0 := slot_eq (hdep ⟨1, .data⟩ (by simp) rfl)
                exact rel_pure _ rfl rfl (by simp [go_sem, e0])
              · refine grd_yes (j := 2) (b := false) rfl (hdep ⟨2, .guard⟩ (by simp) rfl) ?_
                have e0 := slot_eq (hag 7 rfl)
                exact rel_pure _ rfl rfl (by simp [go_sem, e0])
              · refine grd_yes (j := 2) (b := false) rfl (hdep ⟨2, .guard⟩ (by simp) rfl) ?_
                have e0 := slot_eq (hdep ⟨3, .data⟩ (by simp) rfl)
                exact rel_pure _ rfl rfl (by simp [go_sem, e0])
              · refine grd_yes (j := 2) (b := false) rfl (hdep ⟨2, .guard⟩ (by simp) rfl) ?_
                have e0 := slot_eq (hdep ⟨4, .data⟩ (by simp) rfl)
                have hq := (HI.out wx hE).1
                exact rel_pure _ rfl rfl (by simp [go_sem, e0, hq])
              · refine grd_yes (j := 2) (b := false) rfl (hdep ⟨2, .guard⟩ (by simp) rfl) ?_
                have e0 := slot_eq (hag 0 rfl)
                exact rel_pure _ rfl rfl (by simp [go_sem, e0])
              · refine grd_yes (j := 2) (b := false) rfl (hdep ⟨2, .guard⟩ (by simp) rfl) ?_
                have e0 := slot_eq (hdep ⟨6, .data⟩ (by simp) rfl)
                exact rel_pure _ rfl rfl (by simp [go_sem, e0])
              · refine grd_yes (j := 2) (b := false) rfl (hdep ⟨2, .guard⟩ (by simp) rfl) ?_
                have e0 := slot_eq (hdep ⟨7, .data⟩ (by simp) rfl)
                exact rel_pure _ rfl rfl (by simp [go_sem, e0])
              · refine grd_yes (j := 2) (b := false) rfl (hdep ⟨2, .guard⟩ (by simp) rfl) ?_
                have e0 := slot_eq (hdep ⟨8, .data⟩ (by simp) rfl)
                have hq := (xpw.keep hE).all.1
                exact rel_pure _ rfl rfl (by simp [go_sem, e0, hq])
              · refine grd_yes (j := 2) (b := false) rfl (hdep ⟨2, .guard⟩ (by simp) rfl) ?_
                have e0 := slot_eq (hdep ⟨9, .data⟩ (by simp) rfl)
                exact rel_pure _ rfl rfl (by simp [go_sem, e0])
              · refine grd_yes (j := 2) (b := false) rfl (hdep ⟨2, .guard⟩ (by simp) rfl) ?_
                have e0 := slot_eq (hdep ⟨10, .data⟩ (by simp) rfl)
                exact rel_pure _ rfl rfl (by simp [go_sem, e0, hn1])
              · refine grd_yes (j := 2) (b := false) rfl (hdep ⟨2, .guard⟩ (by simp) rfl) ?_
                have e0 := slot_eq (hdep ⟨5, .data⟩ (by simp) rfl)
                have e1 := slot_eq (hdep ⟨11, .data⟩ (by simp) rfl)
                exact rel_pure _ rfl rfl (by simp [go_sem, e0, e1, hab0])
              · refine grd_none rfl ?_
                have e0 := slot_eq (hdep ⟨2, .data⟩ (by simp) rfl)
                have e1 := slot_eq (hdep ⟨12, .data⟩ (by simp) rfl)
                exact rel_pure _ rfl rfl (by simp [go_sem, e0, e1])
              · refine grd_none rfl ?_
                have e0 := slot_eq (hdep ⟨13, .data⟩ (by simp) rfl)
                exact rel_pure _ rfl rfl (by simp [go_sem, e0])
              · refine grd_yes (j := 14) (b := false) rfl (hdep ⟨14, .guard⟩ (by simp) rfl) ?_
                have e0 := slot_eq (hag 1 rfl)
                exact rel_pure _ rfl rfl (by simp [go_sem, e0])
              · refine grd_yes (j := 14) (b := false) rfl (hdep ⟨14, .guard⟩ (by simp) rfl) ?_
                have e0 := slot_eq (hdep ⟨15, .data⟩ (by simp) rfl)
                exact rel_pure _ rfl rfl (by simp [go_sem, e0])
              · refine grd_yes (j := 14) (b := false) rfl (hdep ⟨14, .guard⟩ (by simp) rfl) ?_
                have e0 := slot_eq (hdep ⟨16, .data⟩ (by simp) rfl)
                have hq := (xw.keep hE).all.1
                exact rel_pure _ rfl rfl (by simp [go_sem, e0, hq])
              · refine grd_yes (j := 14) (b := false) rfl (hdep ⟨14, .guard⟩ (by simp) rfl) ?_
                have e0 := slot_eq (hdep ⟨17, .data⟩ (by simp) rfl)
                exact rel_pure _ rfl rfl (by simp [go_sem, e0, hw5])
              · refine grd_yes (j := 14) (b := false) rfl (hdep ⟨14, .guard⟩ (by simp) rfl) ?_
                have e0 := slot_eq (hdep ⟨18, .data⟩ (by simp) rfl)
                exact rel_pure _ rfl rfl (by simp [go_sem, e0])
              · refine grd_yes (j := 19) (b := true) rfl (hdep ⟨19, .guard⟩ (by simp) rfl) ?_
                have e0 := slot_eq (hag 1 rfl)
                exact rel_pure _ rfl rfl (by simp [go_sem, e0])
              · refine grd_yes (j := 19) (b := true) rfl (hdep ⟨19, .guard⟩ (by simp) rfl) ?_
                have e0 := slot_eq (hdep ⟨20, .data⟩ (by simp) rfl)
                exact rel_pure _ rfl rfl (by simp [go_sem, e0])
              · refine grd_yes (j := 19) (b := true) rfl (hdep ⟨19, .guard⟩ (by simp) rfl) ?_
                have e0 := slot_eq (hdep ⟨21, .data⟩ (by simp) rfl)
                have hq := (xw.keep hE).all.1
                exact rel_pure _ rfl rfl (by simp [go_sem, e0, hq])
              · refine grd_yes (j := 19) (b := true) rfl (hdep ⟨19, .guard⟩ (by simp) rfl) ?_
                have e0 := slot_eq (hdep ⟨22, .data⟩ (by simp) rfl)
                exact rel_pure _ rfl rfl (by simp [go_sem, e0, hw6])
              · refine grd_yes (j := 14) (b := false) rfl (hdep ⟨14, .guard⟩ (by simp) rfl) ?_
                have e0 := slot_eq (hdep ⟨19, .data⟩ (by simp) rfl)
                have e1 := slot_eq (hdep ⟨23, .data⟩ (by simp) rfl)
                exact rel_pure _ rfl rfl (by simp [go_sem, e0, e1])
            · intro t op ht hlt; cases hlt
            · intro vs wy hE hvs _
              have k14 : vs 14 = .bool false := hvs 14 (by omega)
              have k24 : vs 24 = .bool false := hvs 24 (by omega)
              simp only [List.drop_succ_cons, List.drop_zero, putAll, dstAt, List.getElem?_toArray, List.getElem?_cons_zero, List.getElem?_cons_succ, Option.bind_some, Act.put, List.setIfInBounds_toArray, List.set_cons_zero, List.set_cons_succ, k14, k24]
              clear hvs k14 k24
              have B2 := bcall B hE
              have xg := xw.keep hE
              obtain ⟨r1, hr1⟩ : ∃ r, r = (if addE σ w2 b w4 text = 0 then (σ.notes.length : Int) + 1 else 0) := ⟨_, rfl⟩
              obtain ⟨r2, hr2⟩ : ∃ r, r = addE σ w2 b w4 text := ⟨_, rfl⟩
              have HADD : Hid (∀ wx, Below W.heap.size W wx → Calls Tryz.prog 17 #[.pointer (some ⟨p, 0, none⟩), .string w2, .int .i64 b, .string w4, .string text] wx fun e w' => e = .returned (.tuple #[.int .i64 r1, .int .i64 r2]) ∧ VGo wx p (addN σ w2 b w4 text) F w') := Lib.hid (fun wx hb => by
                rw [hr1, hr2]
                exact conform_Add p σ F _ m rv w2 b w4 text wx (H.out.keep hb) Hwf.out)
              have HFG : Hid (¬ F gi) := Lib.hid (fun hF => by have := H.out.flt gi hF; have := HGI.out.1; omega)
              have HR2 := Lib.hid hr2
              clear hr1 hr2
              go_upto_region 4 with fail
              refine wp_region_inv 17 (fun q u => u = [.pointer (some ⟨p, 0, none⟩), .slice (some ⟨gw, 0, none⟩) 6 6, .pointer (some ⟨gw, 2, none⟩), .string w2, .slice (some ⟨gi, 0, none⟩) 2 ci, .pointer (some ⟨gi, 1, none⟩), .int .i64 b, .slice (some ⟨gw, 0, none⟩) 6 6, .pointer (some ⟨gw, 4, none⟩), .string w4, .string text, .tuple #[.int .i64 r1, .int .i64 r2], .tuple #[.int .i64 r1, .int .i64 r2], .int .i64 r1, .int .i64 r2, .int .i64 r1, .int .i64 r2].getD q undef) (fun d vs w' => Bx w' gw 9 #[.string w0, .string w1, .string w2, .string w3, .string w4, .string w5] ∧ (w'.cell? ⟨gi, 0, none⟩ = some (.int .i64 a) ∧ w'.cell? ⟨gi, 1, none⟩ = some (.int .i64 b)) ∧ (if d 11 then VGo W p (addN σ w2 b w4 text) F w' else Below W.heap.size W w')) (by kernel_rfl) (by kernel_rfl) ?_ ?_ ?_
              · intro vs
                exact ⟨xg.keep ((Below.refl _ _).drew), HI.out _ (hE.trans ((Below.refl _ _).drew.mono hE.size)), (B2.trans ((Below.refl _ _).drew.mono B2.size))⟩
              · intro i o hi ho
                rcases (by omega : i = 0 ∨ i = 1 ∨ i = 2 ∨ i = 3 ∨ i = 4 ∨ i = 5 ∨ i = 6 ∨ i = 7 ∨ i = 8 ∨ i = 9 ∨ i = 10 ∨ i = 11 ∨ i = 12 ∨ i = 13 ∨ i = 14 ∨ i = 15 ∨ i = 16) with rfl | rfl | rfl | rfl | rfl | rfl | rfl | rfl | rfl | rfl | rfl | rfl | rfl | rfl | rfl | rfl | rfl
                all_goals simp only [List.getElem?_cons_zero, List.getElem?_cons_succ, Option.some.injEq] at ho
                all_goals subst ho
                all_goals intro d a0 wx hI hag hdep hun
                · have e0 := slot_eq (hag 0 rfl)
                  exact inv_val (v := .pointer (some ⟨p, 0, none⟩)) (by simp [go_sem, e0]) (fun h => (by cases h)) rfl hI
                · have e0 := slot_eq (hag 1 rfl)
                  exact inv_val (v := .slice (some ⟨gw, 0, none⟩) 6 6) (by simp [go_sem, e0]) (fun h => (by cases h)) rfl hI
                · have e0 := slot_eq (hdep ⟨1, .data⟩ (by simp) rfl).1
                  exact inv_val (v := .pointer (some ⟨gw, 2, none⟩)) (by simp [go_sem, e0]) (fun h => (by cases h)) rfl hI
                · have e0 := slot_eq (hdep ⟨2, .data⟩ (by simp) rfl).1
                  have hq := hI.1.all.1
                  exact inv_val (v := .string w2) (by simp [go_sem, e0, hq]) (fun h => (by cases h)) rfl hI
                · have e0 := slot_eq (hag 7 rfl)
                  exact inv_val (v := .slice (some ⟨gi, 0, none⟩) 2 ci) (by simp [go_sem, e0]) (fun h => (by cases h)) rfl hI
                · have e0 := slot_eq (hdep ⟨4, .data⟩ (by simp) rfl).1
                  exact inv_val (v := .pointer (some ⟨gi, 1, none⟩)) (by simp [go_sem, e0]) (fun h => (by cases h)) rfl hI
                · have e0 := slot_eq (hdep ⟨5, .data⟩ (by simp) rfl).1
                  have hq := hI.2.1.2
                  exact inv_val (v := .int .i64 b) (by simp [go_sem, e0, hq]) (fun h => (by cases h)) rfl hI
                · have e0 := slot_eq (hag 1 rfl)
                  exact inv_val (v := .slice (some ⟨gw, 0, none⟩) 6 6) (by simp [go_sem, e0]) (fun h => (by cases h)) rfl hI
                · have e0 := slot_eq (hdep ⟨7, .data⟩ (by simp) rfl).1
                  exact inv_val (v := .pointer (some ⟨gw, 4, none⟩)) (by simp [go_sem, e0]) (fun h => (by cases h)) rfl hI
                · have e0 := slot_eq (hdep ⟨8, .data⟩ (by simp) rfl).1
                  have hq := hI.1.all.1
                  exact inv_val (v := .string w4) (by simp [go_sem, e0, hq]) (fun h => (by cases h)) rfl hI
                · have e0 := slot_eq (hag 2 rfl)
                  exact inv_val (v := .string text) (by simp [go_sem, e0]) (fun h => (by cases h)) rfl hI
                · have e0 := slot_eq (hdep ⟨0, .data⟩ (by simp) rfl).1
                  have e1 := slot_eq (hdep ⟨3, .data⟩ (by simp) rfl).1
                  have e2 := slot_eq (hdep ⟨6, .data⟩ (by simp) rfl).1
                  have e3 := slot_eq (hdep ⟨9, .data⟩ (by simp) rfl).1
                  have e4 := slot_eq (hdep ⟨10, .data⟩ (by simp) rfl).1
                  refine inv_call (f := 17) (args := #[.pointer (some ⟨p, 0, none⟩), .string w2, .int .i64 b, .string w4, .string text]) (run_go_call Tryz.func17 (by kernel_rfl) (by kernel_rfl) _ _ _ _ _ _ _ _ _ _ (by simp [Act.eval, e0, e1, e2, e3, e4])) (fun h => (by cases h)) ?_
                  obtain ⟨i1, i2, i3⟩ := hI
                  simp only [hun, Bool.false_eq_true, if_false] at i3
                  refine (HADD.out wx i3).mono ?_
                  rintro e w' ⟨rfl, g1⟩
                  have fr := g1.fr
                  refine ⟨_, rfl, rfl, (fr.block gw i1.lt Hgw.out).trans i1, ⟨?_, ?_⟩, ?_⟩
                  · exact (fr_cell fr HFG.out i2.1).trans i2.1
                  · exact (fr_cell fr HFG.out i2.2).trans i2.2
                  · show VGo W p _ F w'
                    exact g1.pre i3
                · have e0 := slot_eq (hdep ⟨11, .data⟩ (by simp) rfl).1
                  exact inv_val (v := .tuple #[.int .i64 r1, .int .i64 r2]) (by simp [go_sem, e0]) (fun h => (by cases h)) rfl hI
                · have e0 := slot_eq (hdep ⟨12, .data⟩ (by simp) rfl).1
                  exact inv_val (v := .int .i64 r1) (by simp [go_sem, e0]) (fun h => (by cases h)) rfl hI
                · have e0 := slot_eq (hdep ⟨12, .data⟩ (by simp) rfl).1
                  exact inv_val (v := .int .i64 r2) (by simp [go_sem, e0]) (fun h => (by cases h)) rfl hI
                · have e0 := slot_eq (hdep ⟨13, .data⟩ (by simp) rfl).1
                  exact inv_val (v := .int .i64 r1) (by simp [go_sem, e0]) (fun h => (by cases h)) rfl hI
                · have e0 := slot_eq (hdep ⟨14, .data⟩ (by simp) rfl).1
                  exact inv_val (v := .int .i64 r2) (by simp [go_sem, e0]) (fun h => (by cases h)) rfl hI
              · intro d vs w6 hd hI hA
                obtain ⟨x6, hi6, g6⟩ := hI
                rw [hd 11 (by omega), if_pos rfl] at g6
                have k0 : vs 0 = .pointer (some ⟨p, 0, none⟩) := hA 0 (by omega)
                have k1 : vs 1 = .slice (some ⟨gw, 0, none⟩) 6 6 := hA 1 (by omega)
                have k2 : vs 2 = .pointer (some ⟨gw, 2, none⟩) := hA 2 (by omega)
                have k3 : vs 3 = .string w2 := hA 3 (by omega)
                have k4 : vs 4 = .slice (some ⟨gi, 0, none⟩) 2 ci := hA 4 (by omega)
                have k5 : vs 5 = .pointer (some ⟨gi, 1, none⟩) := hA 5 (by omega)
                have k6 : vs 6 = .int .i64 b := hA 6 (by omega)
                have k7 : vs 7 = .slice (some ⟨gw, 0, none⟩) 6 6 := hA 7 (by omega)
                have k8 : vs 8 = .pointer (some ⟨gw, 4, none⟩) := hA 8 (by omega)
                have k9 : vs 9 = .string w4 := hA 9 (by omega)
                have k10 : vs 10 = .string text := hA 10 (by omega)
                have k11 : vs 11 = .tuple #[.int .i64 r1, .int .i64 r2] := hA 11 (by omega)
                have k12 : vs 12 = .tuple #[.int .i64 r1, .int .i64 r2] := hA 12 (by omega)
                have k13 : vs 13 = .int .i64 r1 := hA 13 (by omega)
                have k14 : vs 14 = .int .i64 r2 := hA 14 (by omega)
                have k15 : vs 15 = .int .i64 r1 := hA 15 (by omega)
                have k16 : vs 16 = .int .i64 r2 := hA 16 (by omega)
                simp only [putAll, dstAt, List.getElem?_toArray, List.getElem?_cons_zero, List.getElem?_cons_succ, Option.bind_some, Option.bind_eq_bind, Act.put, List.setIfInBounds_toArray, List.set_cons_zero, List.set_cons_succ, k0, k1, k2, k3, k4, k5, k6, k7, k8, k9, k10, k11, k12, k13, k14, k15, k16]
                clear hA hd k0 k1 k2 k3 k4 k5 k6 k7 k8 k9 k10 k11 k12 k13 k14 k15 k16
                by_cases he : addE σ w2 b w4 text = 0
                · have HO : Hid (noteO σ w1 w2 w3 w4 w5 text = some (opnS (addS σ w2 b w4 text) n0 false)) := Lib.hid (by
                    unfold noteO
                    rw [HA.out.1, HA.out.2]
                    dsimp only
                    rw [if_neg (by rw [← Hn.out]; rintro (h | ⟨h, h'⟩); exact h hab0; exact h' h6), if_neg (by rw [he]; simp), ← Hn.out, decide_eq_false h5])
                  obtain rfl : r2 = 0 := by rw [HR2.out]; exact he
                  have hl : (addS σ w2 b w4 text).notes.length = n0 + 1 := by show (σ.notes ++ [_]).length = _; rw [List.length_append, ← Hn.out]; rfl
                  rw [show addN σ w2 b w4 text = addS σ w2 b w4 text by unfold addN; rw [if_pos he]] at g6
                  obtain ⟨F', vn', m', rv', V, fr6, hs6⟩ := g6
                  obtain ⟨gn, cap, eg, _⟩ := V.at (k := n0) (by rw [hl]; omega)
                  rw [hl] at eg
                  subst eg
                  have xp6 := V.bx
                  have HV := Lib.hid (And.intro V (And.intro fr6 hs6))
                  have hw7 : IntKind.i64.wrap (a - 1) = (n0 : Int) := by rw [IntKind.wrap_i64]; omega
                  have HIb : Hid (∀ wx : World, Below w6.heap.size w6 wx → wx.cell? ⟨gi, 0, none⟩ = some (.int .i64 a) ∧ wx.cell? ⟨gi, 1, none⟩ = some (.int .i64 b)) := Lib.hid (fun wx hE => ⟨(hE.cell (p := ⟨gi, 0, none⟩) (World.block_lt_of_cell? w6 _ hi6.1)).trans hi6.1, (hE.cell (p := ⟨gi, 1, none⟩) (World.block_lt_of_cell? w6 _ hi6.2)).trans hi6.2⟩)
                  clear HI V fr6 hs6
                  have HI := HIb
                  go_upto_region 7 with fail
                  refine wp_region_grd 15 (fun _ => false) (fun q u w' => u = [.pointer (some ⟨p, 0, none⟩), .pointer (some ⟨p, 0, none⟩), .pointer (some ⟨p, 0, none⟩), .slice (some ⟨gn, 0, none⟩) (n0 + 1) cap, .slice (some ⟨gi, 0, none⟩) 2 ci, .pointer (some ⟨gi, 0, none⟩), .int .i64 a, .int .i64 (n0 : Int), .slice (some ⟨gw, 0, none⟩) 6 6, .pointer (some ⟨gw, 5, none⟩), .string w5, .bool false, .pointer (some ⟨gn, n0 * 9, none⟩), .pointer (some ⟨gn, n0 * 9, none⟩), .pointer (some ⟨gn, n0 * 9 + 5, none⟩)].getD q undef) (fun _ => false) (fun w' => Below w6.heap.size w6 w') (by kernel_rfl) (by kernel_rfl) (fun _ _ _ _ _ h => h)
                    (fun _ _ h e => e.trans (h.mono e.size)) (fun t u a' b' hb h => ?_) (Below.refl _ _).drew ?_ ?_ ?_
                  · exact h
                  · intro t op ht hlt hop
                    clear hlt
                    rcases (by omega : t = 0 ∨ t = 1 ∨ t = 2 ∨ t = 3 ∨ t = 4 ∨ t = 5 ∨ t = 6 ∨ t = 7 ∨ t = 8 ∨ t = 9 ∨ t = 10 ∨ t = 11 ∨ t = 12 ∨ t = 13 ∨ t = 14) with rfl | rfl | rfl | rfl | rfl | rfl | rfl | rfl | rfl | rfl | rfl | rfl | rfl | rfl | rfl
                    all_goals simp only [List.getElem?_cons_zero, List.getElem?_cons_succ, Option.some.injEq] at hop
                    all_goals subst hop
                    all_goals intro a wx hE hag hdep
                    · refine grd_none rfl ?_
                      have e0 := slot_eq (hag 0 rfl)
                      exact rel_pure _ rfl rfl (by simp [go_sem, e0])
                    · refine grd_none rfl ?_
                      have e0 := slot_eq (hdep ⟨0, .data⟩ (by simp) rfl)
                      exact rel_pure _ rfl rfl (by simp [go_sem, e0])
                    · refine grd_none rfl ?_
                      have e0 := slot_eq (hdep ⟨1, .data⟩ (by simp) rfl)
                      exact rel_pure _ rfl rfl (by simp [go_sem, e0])
                    · refine grd_none rfl ?_
                      have e0 := slot_eq (hdep ⟨2, .data⟩ (by simp) rfl)
                      have hq := (xp6.keep hE).all.1
                      exact rel_pure _ rfl rfl (by simp [go_sem, e0, hq])
                    · refine grd_none rfl ?_
                      have e0 := slot_eq (hag 7 rfl)
                      exact rel_pure _ rfl rfl (by simp [go_sem, e0])
                    · refine grd_none rfl ?_
                      have e0 := slot_eq (hdep ⟨4, .data⟩ (by simp) rfl)
                      exact rel_pure _ rfl rfl (by simp [go_sem, e0])
                    · refine grd_none rfl ?_
                      have e0 := slot_eq (hdep ⟨5, .data⟩ (by simp) rfl)
                      have hq := (HI.out wx hE).1
                      exact rel_pure _ rfl rfl (by simp [go_sem, e0, hq])
                    · refine grd_none rfl ?_
                      have e0 := slot_eq (hdep ⟨6, .data⟩ (by simp) rfl)
                      exact rel_pure _ rfl rfl (by simp [go_sem, e0, hw7])
                    · refine grd_none rfl ?_
                      have e0 := slot_eq (hag 1 rfl)
                      exact rel_pure _ rfl rfl (by simp [go_sem, e0])
                    · refine grd_none rfl ?_
                      have e0 := slot_eq (hdep ⟨8, .data⟩ (by simp) rfl)
                      exact rel_pure _ rfl rfl (by simp [go_sem, e0])
                    · refine grd_none rfl ?_
                      have e0 := slot_eq (hdep ⟨9, .data⟩ (by simp) rfl)
                      have hq := (x6.keep hE).all.1
                      exact rel_pure _ rfl rfl (by simp [go_sem, e0, hq])
                    · refine grd_none rfl ?_
                      have e0 := slot_eq (hdep ⟨10, .data⟩ (by simp) rfl)
                      exact rel_pure _ rfl rfl (by simp [go_sem, e0, hw5])
                    · refine grd_none rfl ?_
                      have e0 := slot_eq (hdep ⟨3, .data⟩ (by simp) rfl)
                      have e1 := slot_eq (hdep ⟨7, .data⟩ (by simp) rfl)
                      exact rel_pure _ rfl rfl (by simp [go_sem, e0, e1, show ¬ ((n0 : Int) + 1 ≤ (n0 : Int)) by omega])
                    · refine grd_none rfl ?_
                      have e0 := slot_eq (hdep ⟨12, .data⟩ (by simp) rfl)
                      exact rel_pure _ rfl rfl (by simp [go_sem, e0])
                    · refine grd_none rfl ?_
                      have e0 := slot_eq (hdep ⟨13, .data⟩ (by simp) rfl)
                      exact rel_pure _ rfl rfl (by simp [go_sem, e0])
                  · intro t op ht hlt; cases hlt
                  · intro vs w7 hE7 hvs _
                    have k11 : vs 11 = .bool false := hvs 11 (by omega)
                    have k14 : vs 14 = .pointer (some ⟨gn, n0 * 9 + 5, none⟩) := hvs 14 (by omega)
                    simp only [List.drop_succ_cons, List.drop_zero, putAll, dstAt, List.getElem?_toArray, List.getElem?_cons_zero, List.getElem?_cons_succ, Option.bind_some, Act.put, List.setIfInBounds_toArray, List.set_cons_zero, List.set_cons_succ, k11, k14]
                    clear hvs k11 k14
                    have V7 := HV.out.1.keep hE7
                    obtain ⟨gn2, cap2, eg, hg, hfz, c0, c1, c2, c3, c4, c5, c6, c7, c8⟩ := V7.at (k := n0) (by rw [hl]; omega)
                    rw [hl] at eg
                    cases eg
                    have HV7 := Lib.hid V7
                    have Hb7 := Lib.hid hE7
                    clear c0 c1 c2 c3 c4 c6 c7 c8 V7 hE7 xp6 HI HIb
                    go_upto_region 8 with fail
                    refine name_world ?_
                    intro w8 hw8
                    have V8 := Lib.hid (HV7.out.opn (k := n0) (by rw [hl]; omega) false)
                    have F8 := Lib.hid ((HV.out.2.1.call Hb7.out).trans (HV7.out.opn_fr (k := n0) false) (fun b e => by
                      rcases HV.out.2.2 b e with e | e
                      · exact .inl e
                      · exact .inr e))
                    rw [← hw8] at V8 F8
                    clear hw8 c5 hfz hg
                    go_wp2_with fail
                    go_ret
                    exact ⟨0, rfl, .inl ⟨rfl, _, HO.out, F', _, m', rv', V8.out, F8.out, HV.out.2.2⟩⟩
                · have HO : Hid (noteO σ w1 w2 w3 w4 w5 text = none) := Lib.hid (by
                    unfold noteO
                    rw [HA.out.1, HA.out.2]
                    dsimp only
                    rw [if_neg (by rw [← Hn.out]; rintro (h | ⟨h, h'⟩); exact h hab0; exact h' h6), if_pos he])
                  have hr : r2 ≠ 0 := by rw [HR2.out]; exact he
                  have hr' : (r2 == 0) = false := by simpa using hr
                  have Hr := Lib.hid hr
                  have HG := Lib.hid g6.fr
                  clear g6
                  go_wp2_with fail
                  go_ret
                  exact ⟨r2, rfl, .inr ⟨Hr.out, HO.out, HG.out⟩⟩
          · have hw6 : (w5.toList == [99, 108, 111, 115, 101, 100]) = false := by rw [list_beq]; exact decide_eq_false h6
            have HO : Hid (noteO σ w1 w2 w3 w4 w5 text = none) := Lib.hid (by
              unfold noteO
              rw [HA.out.1, HA.out.2]
              dsimp only
              rw [if_pos (.inr ⟨h5, h6⟩)])
            clear h5 h6
            go_upto_region 2 with fail
            refine wp_region_grd 25 (fun _ => false) (fun q u w' => u = [.bool true, .bool false, .bool false, .slice (some ⟨gi, 0, none⟩) 2 ci, .pointer (some ⟨gi, 0, none⟩), .int .i64 a, .pointer (some ⟨p, 0, none⟩), .pointer (some ⟨p, 0, none⟩), .pointer (some ⟨p, 0, none⟩), .slice na n0 nc, .int .i64 (n0 : Int), .int .i64 ((n0 : Int) + 1), .bool false, .bool false, .bool false, .slice (some ⟨gw, 0, none⟩) 6 6, .pointer (some ⟨gw, 5, none⟩), .string w5, .bool true, .bool true, .slice (some ⟨gw, 0, none⟩) 6 6, .pointer (some ⟨gw, 5, none⟩), .string w5, .bool true, .bool true].getD q undef) (fun _ => false) (fun w' => Below wn.heap.size wn w') (by kernel_rfl) (by kernel_rfl) (fun _ _ _ _ _ h => h)
              (fun _ _ h e => e.trans (h.mono e.size)) (fun t u a' b' hb h => ?_) (Below.refl _ _).drew ?_ ?_ ?_
            · exact h
            · intro t op ht hlt hop
              clear hlt
              rcases (by omega : t = 0 ∨ t = 1 ∨ t = 2 ∨ t = 3 ∨ t = 4 ∨ t = 5 ∨ t = 6 ∨ t = 7 ∨ t = 8 ∨ t = 9 ∨ t = 10 ∨ t = 11 ∨ t = 12 ∨ t = 13 ∨ t = 14 ∨ t = 15 ∨ t = 16 ∨ t = 17 ∨ t = 18 ∨ t = 19 ∨ t = 20 ∨ t = 21 ∨ t = 22 ∨ t = 23 ∨ t = 24) with rfl | rfl | rfl | rfl | rfl | rfl | rfl | rfl | rfl | rfl | rfl | rfl | rfl | rfl | rfl | rfl | rfl | rfl | rfl | rfl | rfl | rfl | rfl | rfl | rfl
              all_goals simp only [List.getElem?_cons_zero, List.getElem?_cons_succ, Option.some.injEq] at hop
              all_goals subst hop
              all_goals intro a wx hE hag hdep
              · refine grd_none rfl ?_
                have e0 := slot_eq (hag 8 rfl)
                exact rel_pure _ rfl rfl (by simp [go_sem, e0])
              · refine grd_none rfl ?_
                have e0 := slot_eq (hdep ⟨0, .data⟩ (by simp) rfl)
                exact rel_pure _ rfl rfl (by simp [go_sem, e0])
              · refine grd_none rfl ?_
                have e0 := slot_eq (hdep ⟨1, .data⟩ (by simp) rfl)
                exact rel_pure _ rfl rfl (by simp [go_sem, e0])
              · refine grd_yes (j := 2) (b := false) rfl (hdep ⟨2, .guard⟩ (by simp) rfl) ?_
                have e0 := slot_eq (hag 7 rfl)
                exact rel_pure _ rfl rfl (by simp [go_sem, e0])
              · refine grd_yes (j := 2) (b := false) rfl (hdep ⟨2, .guard⟩ (by simp) rfl) ?_
                have e0 := slot_eq (hdep ⟨3, .data⟩ (by simp) rfl)
                exact rel_pure _ rfl rfl (by simp [go_sem, e0])
              · refine grd_yes (j := 2) (b := false) rfl (hdep ⟨2, .guard⟩ (by simp) rfl) ?_
                have e0 := slot_eq (hdep ⟨4, .data⟩ (by simp) rfl)
                have hq := (HI.out wx hE).1
                exact rel_pure _ rfl rfl (by simp [go_sem, e0, hq])
              · refine grd_yes (j := 2) (b := false) rfl (hdep ⟨2, .guard⟩ (by simp) rfl) ?_
                have e0 := slot_eq (hag 0 rfl)
                exact rel_pure _ rfl rfl (by simp [go_sem, e0])
              · refine grd_yes (j := 2) (b := false) rfl (hdep ⟨2, .guard⟩ (by simp) rfl) ?_
                have e0 := slot_eq (hdep ⟨6, .data⟩ (by simp) rfl)
                exact rel_pure _ rfl rfl (by simp [go_sem, e0])
              · refine grd_yes (j := 2) (b := false) rfl (hdep ⟨2, .guard⟩ (by simp) rfl) ?_
                have e0 := slot_eq (hdep ⟨7, .data⟩ (by simp) rfl)
                exact rel_pure _ rfl rfl (by simp [go_sem, e0])
              · refine grd_yes (j := 2) (b := false) rfl (hdep ⟨2, .guard⟩ (by simp) rfl) ?_
                have e0 := slot_eq (hdep ⟨8, .data⟩ (by simp) rfl)
                have hq := (xpw.keep hE).all.1
                exact rel_pure _ rfl rfl (by simp [go_sem, e0, hq])
              · refine grd_yes (j := 2) (b := false) rfl (hdep ⟨2, .guard⟩ (by simp) rfl) ?_
                have e0 := slot_eq (hdep ⟨9, .data⟩ (by simp) rfl)
                exact rel_pure _ rfl rfl (by simp [go_sem, e0])
              · refine grd_yes (j := 2) (b := false) rfl (hdep ⟨2, .guard⟩ (by simp) rfl) ?_
                have e0 := slot_eq (hdep ⟨10, .data⟩ (by simp) rfl)
                exact rel_pure _ rfl rfl (by simp [go_sem, e0, hn1])
              · refine grd_yes (j := 2) (b := false) rfl (hdep ⟨2, .guard⟩ (by simp) rfl) ?_
                have e0 := slot_eq (hdep ⟨5, .data⟩ (by simp) rfl)
                have e1 := slot_eq (hdep ⟨11, .data⟩ (by simp) rfl)
                exact rel_pure _ rfl rfl (by simp [go_sem, e0, e1, hab0])
              · refine grd_none rfl ?_
                have e0 := slot_eq (hdep ⟨2, .data⟩ (by simp) rfl)
                have e1 := slot_eq (hdep ⟨12, .data⟩ (by simp) rfl)
                exact rel_pure _ rfl rfl (by simp [go_sem, e0, e1])
              · refine grd_none rfl ?_
                have e0 := slot_eq (hdep ⟨13, .data⟩ (by simp) rfl)
                exact rel_pure _ rfl rfl (by simp [go_sem, e0])
              · refine grd_yes (j := 14) (b := false) rfl (hdep ⟨14, .guard⟩ (by simp) rfl) ?_
                have e0 := slot_eq (hag 1 rfl)
                exact rel_pure _ rfl rfl (by simp [go_sem, e0])
              · refine grd_yes (j := 14) (b := false) rfl (hdep ⟨14, .guard⟩ (by simp) rfl) ?_
                have e0 := slot_eq (hdep ⟨15, .data⟩ (by simp) rfl)
                exact rel_pure _ rfl rfl (by simp [go_sem, e0])
              · refine grd_yes (j := 14) (b := false) rfl (hdep ⟨14, .guard⟩ (by simp) rfl) ?_
                have e0 := slot_eq (hdep ⟨16, .data⟩ (by simp) rfl)
                have hq := (xw.keep hE).all.1
                exact rel_pure _ rfl rfl (by simp [go_sem, e0, hq])
              · refine grd_yes (j := 14) (b := false) rfl (hdep ⟨14, .guard⟩ (by simp) rfl) ?_
                have e0 := slot_eq (hdep ⟨17, .data⟩ (by simp) rfl)
                exact rel_pure _ rfl rfl (by simp [go_sem, e0, hw5])
              · refine grd_yes (j := 14) (b := false) rfl (hdep ⟨14, .guard⟩ (by simp) rfl) ?_
                have e0 := slot_eq (hdep ⟨18, .data⟩ (by simp) rfl)
                exact rel_pure _ rfl rfl (by simp [go_sem, e0])
              · refine grd_yes (j := 19) (b := true) rfl (hdep ⟨19, .guard⟩ (by simp) rfl) ?_
                have e0 := slot_eq (hag 1 rfl)
                exact rel_pure _ rfl rfl (by simp [go_sem, e0])
              · refine grd_yes (j := 19) (b := true) rfl (hdep ⟨19, .guard⟩ (by simp) rfl) ?_
                have e0 := slot_eq (hdep ⟨20, .data⟩ (by simp) rfl)
                exact rel_pure _ rfl rfl (by simp [go_sem, e0])
              · refine grd_yes (j := 19) (b := true) rfl (hdep ⟨19, .guard⟩ (by simp) rfl) ?_
                have e0 := slot_eq (hdep ⟨21, .data⟩ (by simp) rfl)
                have hq := (xw.keep hE).all.1
                exact rel_pure _ rfl rfl (by simp [go_sem, e0, hq])
              · refine grd_yes (j := 19) (b := true) rfl (hdep ⟨19, .guard⟩ (by simp) rfl) ?_
                have e0 := slot_eq (hdep ⟨22, .data⟩ (by simp) rfl)
                exact rel_pure _ rfl rfl (by simp [go_sem, e0, hw6])
              · refine grd_yes (j := 14) (b := false) rfl (hdep ⟨14, .guard⟩ (by simp) rfl) ?_
                have e0 := slot_eq (hdep ⟨19, .data⟩ (by simp) rfl)
                have e1 := slot_eq (hdep ⟨23, .data⟩ (by simp) rfl)
                exact rel_pure _ rfl rfl (by simp [go_sem, e0, e1])
            · intro t op ht hlt; cases hlt
            · intro vs wy hE hvs _
              have k14 : vs 14 = .bool false := hvs 14 (by omega)
              have k24 : vs 24 = .bool true := hvs 24 (by omega)
              simp only [List.drop_succ_cons, List.drop_zero, putAll, dstAt, List.getElem?_toArray, List.getElem?_cons_zero, List.getElem?_cons_succ, Option.bind_some, Act.put, List.setIfInBounds_toArray, List.set_cons_zero, List.set_cons_succ, k14, k24]
              clear hvs k14 k24
              go_wp2_with fail
              go_ret
              exact ⟨9, rfl, .inr ⟨by decide, HO.out, Fr.of_below (bcall B hE)⟩⟩
      · have hab : (a == (n0 : Int) + 1) = false := by simpa using hab0
        have HO : Hid (noteO σ w1 w2 w3 w4 w5 text = none) := Lib.hid (by
          unfold noteO
          rw [HA.out.1, HA.out.2]
          dsimp only
          rw [if_pos (.inl (by rw [← Hn.out]; exact hab0))])
        skip
        go_upto_region 2 with fail
        refine wp_region_grd 25 (fun _ => false) (fun q u w' => u = [.bool true, .bool false, .bool false, .slice (some ⟨gi, 0, none⟩) 2 ci, .pointer (some ⟨gi, 0, none⟩), .int .i64 a, .pointer (some ⟨p, 0, none⟩), .pointer (some ⟨p, 0, none⟩), .pointer (some ⟨p, 0, none⟩), .slice na n0 nc, .int .i64 (n0 : Int), .int .i64 ((n0 : Int) + 1), .bool true, .bool true, .bool true, undef, undef, undef, undef, undef, undef, undef, undef, undef, undef].getD q undef) (fun _ => false) (fun w' => Below wn.heap.size wn w') (by kernel_rfl) (by kernel_rfl) (fun _ _ _ _ _ h => h)
          (fun _ _ h e => e.trans (h.mono e.size)) (fun t u a' b' hb h => ?_) (Below.refl _ _).drew ?_ ?_ ?_
        · exact h
        · intro t op ht hlt hop
          clear hlt
          rcases (by omega : t = 0 ∨ t = 1 ∨ t = 2 ∨ t = 3 ∨ t = 4 ∨ t = 5 ∨ t = 6 ∨ t = 7 ∨ t = 8 ∨ t = 9 ∨ t = 10 ∨ t = 11 ∨ t = 12 ∨ t = 13 ∨ t = 14 ∨ t = 15 ∨ t = 16 ∨ t = 17 ∨ t = 18 ∨ t = 19 ∨ t = 20 ∨ t = 21 ∨ t = 22 ∨ t = 23 ∨ t = 24) with rfl | rfl | rfl | rfl | rfl | rfl | rfl | rfl | rfl | rfl | rfl | rfl | rfl | rfl | rfl | rfl | rfl | rfl | rfl | rfl | rfl | rfl | rfl | rfl | rfl
          all_goals simp only [List.getElem?_cons_zero, List.getElem?_cons_succ, Option.some.injEq] at hop
          all_goals subst hop
          all_goals intro a wx hE hag hdep
          · refine grd_none rfl ?_
            have e0 := slot_eq (hag 8 rfl)
            exact rel_pure _ rfl rfl (by simp [go_sem, e0])
          · refine grd_none rfl ?_
            have e0 := slot_eq (hdep ⟨0, .data⟩ (by simp) rfl)
            exact rel_pure _ rfl rfl (by simp [go_sem, e0])
          · refine grd_none rfl ?_
            have e0 := slot_eq (hdep ⟨1, .data⟩ (by simp) rfl)
            exact rel_pure _ rfl rfl (by simp [go_sem, e0])
          · refine grd_yes (j := 2) (b := false) rfl (hdep ⟨2, .guard⟩ (by simp) rfl) ?_
            have e0 := slot_eq (hag 7 rfl)
            exact rel_pure _ rfl rfl (by simp [go_sem, e0])
          · refine grd_yes (j := 2) (b := false) rfl (hdep ⟨2, .guard⟩ (by simp) rfl) ?_
            have e0 := slot_eq (hdep ⟨3, .data⟩ (by simp) rfl)
            exact rel_pure _ rfl rfl (by simp [go_sem, e0])
          · refine grd_yes (j := 2) (b := false) rfl (hdep ⟨2, .guard⟩ (by simp) rfl) ?_
            have e0 := slot_eq (hdep ⟨4, .data⟩ (by simp) rfl)
            have hq := (HI.out wx hE).1
            exact rel_pure _ rfl rfl (by simp [go_sem, e0, hq])
          · refine grd_yes (j := 2) (b := false) rfl (hdep ⟨2, .guard⟩ (by simp) rfl) ?_
            have e0 := slot_eq (hag 0 rfl)
            exact rel_pure _ rfl rfl (by simp [go_sem, e0])
          · refine grd_yes (j := 2) (b := false) rfl (hdep ⟨2, .guard⟩ (by simp) rfl) ?_
            have e0 := slot_eq (hdep ⟨6, .data⟩ (by simp) rfl)
            exact rel_pure _ rfl rfl (by simp [go_sem, e0])
          · refine grd_yes (j := 2) (b := false) rfl (hdep ⟨2, .guard⟩ (by simp) rfl) ?_
            have e0 := slot_eq (hdep ⟨7, .data⟩ (by simp) rfl)
            exact rel_pure _ rfl rfl (by simp [go_sem, e0])
          · refine grd_yes (j := 2) (b := false) rfl (hdep ⟨2, .guard⟩ (by simp) rfl) ?_
            have e0 := slot_eq (hdep ⟨8, .data⟩ (by simp) rfl)
            have hq := (xpw.keep hE).all.1
            exact rel_pure _ rfl rfl (by simp [go_sem, e0, hq])
          · refine grd_yes (j := 2) (b := false) rfl (hdep ⟨2, .guard⟩ (by simp) rfl) ?_
            have e0 := slot_eq (hdep ⟨9, .data⟩ (by simp) rfl)
            exact rel_pure _ rfl rfl (by simp [go_sem, e0])
          · refine grd_yes (j := 2) (b := false) rfl (hdep ⟨2, .guard⟩ (by simp) rfl) ?_
            have e0 := slot_eq (hdep ⟨10, .data⟩ (by simp) rfl)
            exact rel_pure _ rfl rfl (by simp [go_sem, e0, hn1])
          · refine grd_yes (j := 2) (b := false) rfl (hdep ⟨2, .guard⟩ (by simp) rfl) ?_
            have e0 := slot_eq (hdep ⟨5, .data⟩ (by simp) rfl)
            have e1 := slot_eq (hdep ⟨11, .data⟩ (by simp) rfl)
            exact rel_pure _ rfl rfl (by simp [go_sem, e0, e1, hab0])
          · refine grd_none rfl ?_
            have e0 := slot_eq (hdep ⟨2, .data⟩ (by simp) rfl)
            have e1 := slot_eq (hdep ⟨12, .data⟩ (by simp) rfl)
            exact rel_pure _ rfl rfl (by simp [go_sem, e0, e1])
          · refine grd_none rfl ?_
            have e0 := slot_eq (hdep ⟨13, .data⟩ (by simp) rfl)
            exact rel_pure _ rfl rfl (by simp [go_sem, e0])
          · exact grd_no (j := 14) (b := false) rfl (hdep ⟨14, .guard⟩ (by simp) rfl) rfl rfl
          · exact grd_no (j := 14) (b := false) rfl (hdep ⟨14, .guard⟩ (by simp) rfl) rfl rfl
          · exact grd_no (j := 14) (b := false) rfl (hdep ⟨14, .guard⟩ (by simp) rfl) rfl rfl
          · exact grd_no (j := 14) (b := false) rfl (hdep ⟨14, .guard⟩ (by simp) rfl) rfl rfl
          · exact grd_no (j := 14) (b := false) rfl (hdep ⟨14, .guard⟩ (by simp) rfl) rfl rfl
          · exact grd_undef (j := 19) (b := true) rfl (hdep ⟨19, .guard⟩ (by simp) rfl) rfl rfl
          · exact grd_undef (j := 19) (b := true) rfl (hdep ⟨19, .guard⟩ (by simp) rfl) rfl rfl
          · exact grd_undef (j := 19) (b := true) rfl (hdep ⟨19, .guard⟩ (by simp) rfl) rfl rfl
          · exact grd_undef (j := 19) (b := true) rfl (hdep ⟨19, .guard⟩ (by simp) rfl) rfl rfl
          · exact grd_no (j := 14) (b := false) rfl (hdep ⟨14, .guard⟩ (by simp) rfl) rfl rfl
        · intro t op ht hlt; cases hlt
        · intro vs wy hE hvs _
          have k14 : vs 14 = .bool true := hvs 14 (by omega)
          have k24 : vs 24 = undef := hvs 24 (by omega)
          simp only [List.drop_succ_cons, List.drop_zero, putAll, dstAt, List.getElem?_toArray, List.getElem?_cons_zero, List.getElem?_cons_succ, Option.bind_some, Act.put, List.setIfInBounds_toArray, List.set_cons_zero, List.set_cons_succ, k14, k24]
          clear hvs k14 k24
          go_wp2_with fail
          go_ret
          exact ⟨9, rfl, .inr ⟨by decide, HO.out, Fr.of_below (bcall B hE)⟩⟩
end Go.Proofs.YtilninaminaadaaGreatDoor

