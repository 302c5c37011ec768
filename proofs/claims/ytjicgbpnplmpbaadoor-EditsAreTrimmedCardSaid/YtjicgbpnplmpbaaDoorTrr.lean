/- dyeref1.Trimmed. (printed by gen_trr.py) -/
import Derived.Test.YtjicgbpnplmpbaaDoorTrs
namespace Go.Proofs.YtjicgbpnplmpbaaDoor
open Go.RowKit

set_option maxRecDepth 100000 in
set_option maxHeartbeats 4000000 in
theorem ref_Trimmed (t : ByteArray) (r event by_ : Int) (v : Value) (tr : Bool) (es es' : List Ev) (W : World) (hs : SlE W v es) (he : (if tr then trimE es event.toNat (clampB 1099511627776 by_) else slipL es event.toNat (clampB 1099511627776 by_)) = es') :
    Calls Tryd.prog 22 #[.agg #[.string t, .int .i64 r, v], .int .i64 event, .int .i64 by_, .bool tr] W fun e w' => Turned W t r (turnErr t r es event es') es' e w' := by
  obtain ⟨k1, k2⟩ := clampB_in 1099511627776 by_ (by omega)
  have He := Lib.hid he
  clear he
  have Hs := Lib.hid hs
  obtain ⟨a, c, rfl, hmax, hform⟩ := hs
  unfold maxLen at hmax
  obtain ⟨n, hn⟩ : ∃ n, n = es.length := ⟨_, rfl⟩
  have Hs' : Hid (SlE W (.slice a n c) es) := by rw [hn]; exact Hs
  rw [← hn] at hmax ⊢
  generalize her : turnErr t r es event es' = er
  have Her := Lib.hid her
  have Hn := Lib.hid hn
  clear her hn Hs
  go_enter Tryd.func22, Tryd.ntmps22
  go_upto_region 1 with fail
  refine name_world ?_
  intro w0 hw0
  have x4 : Bx w0 W.heap.size 52 #[.string t, .int .i64 r, .slice a n c] := by rw [hw0]; exact Bx.alloc (Bx.new _ _ _) _
  have x8 : Bx w0 (W.heap.size + 1) 52 #[.string ⟨#[]⟩, .int .i64 0, .slice none 0 0] := by rw [hw0]; exact Bx.at _ (by simp)
  have B : Below W.heap.size W w0 := by rw [hw0]; exact bnew (bnew (Below.refl _ W))
  clear hw0
  obtain ⟨q3, f3, l3⟩ := x4.all
  obtain ⟨q8, f8, l8⟩ := x8.all
  go_wp2_with fail
  refine (ref_EditsError t r _ es _ (Hs'.out.keep B)).mono ?_
  rintro e w1 ⟨rfl, hb1⟩
  replace x4 := x4.keep hb1
  replace x8 := x8.keep hb1
  replace B := bcall B hb1
  clear hb1 q3 f3 l3 q8 f8 l8
  obtain ⟨q3, f3, l3⟩ := x4.all
  obtain ⟨q8, f8, l8⟩ := x8.all
  by_cases h0 : editsErr t r es = 0
  rotate_left
  · have hr := turnErr_list Her.out h0
    generalize editsErr t r es = e0 at h0 hr
    subst hr
    have hne : (er != 0) = true := by simpa using h0
    go_wp2_with fail
    refine bodyPost_ret (v := .tuple #[.agg #[.string ⟨#[]⟩, .int .i64 0, .slice none 0 0], .int .i64 er]) (by simp [results, Tryd.results22, go_sem, q8]) rfl (turned_bad h0 ?_)
    exact bput (by omega) (bput (by omega) (bput (by omega) B))
  rw [h0]
  by_cases h1 : event < 0
  · have hr := turnErr_place Her.out h0 (.inl h1)
    subst hr
    have hd : decide (event < 0) = true := decide_eq_true h1
    go_wp2_with fail
    refine bodyPost_ret (v := .tuple #[.agg #[.string ⟨#[]⟩, .int .i64 0, .slice none 0 0], .int .i64 11]) (by simp [results, Tryd.results22, go_sem, q8]) rfl (turned_bad (by omega) ?_)
    exact bput (by omega) (bput (by omega) (bput (by omega) B))
  obtain ⟨j, rfl⟩ := Int.eq_ofNat_of_zero_le (show 0 ≤ event by omega)
  by_cases h2 : n ≤ j
  · have hr := turnErr_place Her.out h0 (.inr (by rw [← Hn.out]; exact_mod_cast h2))
    subst hr
    have hd1 : decide ((j : Int) < 0) = false := decide_eq_false (by omega)
    have hd : decide ((n : Int) ≤ (j : Int)) = true := by simp; omega
    go_wp2_with fail
    refine bodyPost_ret (v := .tuple #[.agg #[.string ⟨#[]⟩, .int .i64 0, .slice none 0 0], .int .i64 11]) (by simp [results, Tryd.results22, go_sem, q8]) rfl (turned_bad (by omega) ?_)
    exact bput (by omega) (bput (by omega) (bput (by omega) B))
  have hr := turnErr_new Her.out h0 (by have := Hn.out; omega)
  have h5 := (edits_ok h0).2.2.1
  have hne : es ≠ [] := by intro h; have := Hn.out; rw [h] at this; simp at this; omega
  rcases hform with hf | ⟨b, o, rfl, hbl, hat⟩
  · exact absurd hf hne
  have hat' := fun k hk => (hat k hk).keep B hbl
  have Hr := Lib.hid hr
  have Hat := Lib.hid hat'
  have H0 := Lib.hid h0
  have Hne := Lib.hid hne
  rw [← Hn.out] at h5
  clear hr hat hat' h0 hne Her
  have hd1 : decide ((j : Int) < 0) = false := decide_eq_false (by omega)
  have hd : decide ((n : Int) ≤ (j : Int)) = false := by simp; omega
  go_wp2_with fail
  rw [Hn.out]
  refine (slices_CloneE b o c es _ (by have := Hn.out; omega) Hat.out).mono ?_
  rintro e w2 ⟨v', rfl, hown, hb2⟩
  rw [← Hn.out]
  obtain ⟨g, c', cs, rfl, hg, hx, hlc, hcm, hH⟩ := clone_open hown Hne.out
  unfold maxLen at hcm
  rw [← Hn.out] at hlc ⊢
  have hgW : W.heap.size + 1 < g := by omega
  replace x4 := x4.keep hb2
  replace x8 := x8.keep hb2
  replace B := bcall B hb2
  clear hb2 q3 f3 l3 q8 f8 l8 hown Hat
  have hc2 : c' - j ≠ 0 := by omega
  have HH := Lib.hid hH
  clear hH
  obtain ⟨q3, f3, l3⟩ := x4.all
  go_upto_region 8 with fail
  rw [show imin (imax by_ (-1099511627776)) 1099511627776 = clampB 1099511627776 by_ from rfl]
  rw [Int.toNat_natCast] at He
  generalize clampB 1099511627776 by_ = q at k1 k2 He ⊢
  refine name_world ?_
  intro wb hwb
  replace x4 : Bx wb W.heap.size 52 #[.string t, .int .i64 r, .slice (some ⟨g, 0, none⟩) n c'] := by rw [hwb]; exact Bx.set x4 2 _
  replace x8 : Bx wb (W.heap.size + 1) 52 #[.string ⟨#[]⟩, .int .i64 0, .slice none 0 0] := by rw [hwb]; exact Bx.other x8 _ _ (by simp)
  replace hx : Bx wb g 104 cs := by rw [hwb]; exact Bx.other hx _ _ (by simp; omega)
  replace B : Below W.heap.size W wb := by rw [hwb]; exact bput (Nat.le_refl _) B
  clear hwb q3 f3 l3
  obtain ⟨z1, z2, z3, _, _⟩ := edits_in H0.out j (by have := Hn.out; omega)
  obtain ⟨q3, f3, l3⟩ := x4.all
  obtain ⟨qg, fg, lg⟩ := hx.all
  have c3 : wb.cell? ⟨g, j * 6 + 3, none⟩ = some (.int .i64 (es.getD j default).inn) := by rw [qg]; exact HH.out j 3 (by have := Hn.out; omega) (by omega)
  have c4 : wb.cell? ⟨g, j * 6 + 4, none⟩ = some (.int .i64 (es.getD j default).out) := by rw [qg]; exact HH.out j 4 (by have := Hn.out; omega) (by omega)
  generalize hinn : (es.getD j default).inn = inn at c3 z1 z2
  generalize hout : (es.getD j default).out = out at c4 z2 z3
  have Hio := Lib.hid (And.intro hinn hout)
  have fg3 := fg (j * 6 + 3)
  have fg4 := fg (j * 6 + 4)
  clear hinn hout qg fg
  have hki : (j : Int) < (n : Int) := by omega
  cases tr
  · have he : slipL es j q = es' := by simpa using He.out
    go_upto_region 15 with fail
    refine name_world ?_
    intro w3 hw3
    have hx' : Bx w3 g 104 ((cs.setIfInBounds (j * 6 + 3) (.int .i64 (inn + q))).setIfInBounds (j * 6 + 4) (.int .i64 (out + q))) := by
      rw [hw3, Array.setIfInBounds_comm _ _ (show j * 6 + 3 ≠ j * 6 + 4 by omega)]; exact Bx.set (Bx.set hx _ _) _ _
    replace x4 : Bx w3 W.heap.size 52 #[.string t, .int .i64 r, .slice (some ⟨g, 0, none⟩) n c'] := by rw [hw3]; exact Bx.other (Bx.other x4 _ _ (by simp; omega)) _ _ (by simp; omega)
    replace x8 : Bx w3 (W.heap.size + 1) 52 #[.string ⟨#[]⟩, .int .i64 0, .slice none 0 0] := by rw [hw3]; exact Bx.other (Bx.other x8 _ _ (by simp; omega)) _ _ (by simp; omega)
    replace B : Below W.heap.size W w3 := by rw [hw3]; exact bput (by omega) (bput (by omega) B)
    have hH' := HH.out.slip j (by have := Hn.out; omega) (inn + q) (out + q)
    rw [show es.set j { es.getD j default with inn := inn + q, out := out + q } = es' by rw [← he, slipL, Hio.out.1, Hio.out.2]] at hH'
    clear hw3 hx q3 f3 l3 c3 c4 fg3 fg4 lg
    have hl' : es'.length = es.length := by rw [← he, slipL, List.length_set]
    have hn' : n = es'.length := by rw [hl']; exact Hn.out
    have hsl : SlE w3 (.slice (some ⟨g, 0, none⟩) n c') es' := by rw [hn']; exact hH'.slE hx' (by unfold maxLen; omega) c'
    have HH' := Lib.hid (And.intro hn' hH')
    have Hsl := Lib.hid hsl
    clear hl' hn' hsl hH'
    obtain ⟨q3, f3, l3⟩ := x4.all
    obtain ⟨q8, f8, l8⟩ := x8.all
    go_wp2_with fail
    refine (ref_EditsError t r _ es' _ Hsl.out).mono ?_
    rintro e w4 ⟨rfl, hb4⟩
    rw [← Hr.out]
    replace x4 := x4.keep hb4
    replace x8 := x8.keep hb4
    replace B := bcall B hb4
    replace hx' := hx'.keep hb4
    clear hb4 q3 f3 l3 q8 f8 l8 Hsl
    obtain ⟨q3, f3, l3⟩ := x4.all
    obtain ⟨q8, f8, l8⟩ := x8.all
    by_cases h9 : er = 0
    · subst h9
      go_wp2_with fail
      refine bodyPost_ret (v := .tuple #[.agg #[.string t, .int .i64 r, .slice (some ⟨g, 0, none⟩) n c'], .int .i64 0]) (by simp [results, Tryd.results22, go_sem, q8]) rfl (turned_ok rfl ?_ (offB_at (by omega) _ _ _) ?_)
      · rw [HH'.out.1]
        refine HH'.out.2.slE (Bx.other (Bx.other (Bx.other hx' _ _ (by simp; omega)) _ _ (by simp; omega)) _ _ (by simp; omega)) (by rw [← HH'.out.1]; unfold maxLen; omega) c'
      · exact bput (by omega) (bput (by omega) (bput (by omega) B))
    · have hne : (er != 0) = true := by simpa using h9
      go_wp2_with fail
      refine bodyPost_ret (v := .tuple #[.agg #[.string ⟨#[]⟩, .int .i64 0, .slice none 0 0], .int .i64 er]) (by simp [results, Tryd.results22, go_sem, q8]) rfl (turned_bad h9 ?_)
      exact bput (by omega) (bput (by omega) (bput (by omega) B))
  · have he : trimE es j q = es' := by simpa using He.out
    have hps : Hid (∀ i, i < n → ∃ p, (es.getD i default).pos = p ∧ 0 ≤ p ∧ p ≤ 16777216) := Lib.hid fun i hi => by
      obtain ⟨_, _, _, p1, p2⟩ := edits_in H0.out i (by have := Hn.out; omega)
      exact ⟨_, rfl, p1, p2⟩
    have h40 : trimC cs (j * 6) q out (fun i => (es.getD (j + i) default).pos) 0 = cs.setIfInBounds (j * 6 + 4) (.int .i64 (out + q)) := rfl
    have Hcs := Lib.hid (show ∀ i, i < n → cs[i * 6 + 5]? = some (.int .i64 (es.getD i default).pos) from fun i hi => HH.out i 5 (by have := Hn.out; omega) (by omega))
    go_upto_region 12 with fail
    go_loopw [11] (fun s wr => ∃ k i : Nat, i = j + 1 + k ∧ i ≤ n ∧ s = .int .i64 (i : Int) ∧ Bx wr g 104 (trimC cs (j * 6) q out (fun i => (es.getD (j + i) default).pos) k) ∧
      Bx wr W.heap.size 52 #[.string t, .int .i64 r, .slice (some ⟨g, 0, none⟩) n c'] ∧ Bx wr (W.heap.size + 1) 52 #[.string ⟨#[]⟩, .int .i64 0, .slice none 0 0] ∧ Below W.heap.size W wr) (fun s _ => n - (intOf s).toNat)
    case atStart => exact ⟨0, j + 1, rfl, by omega, by go_num, by rw [h40]; exact Bx.set hx _ _, Bx.other x4 _ _ (by simp; omega), Bx.other x8 _ _ (by simp; omega), bput (by omega) B⟩
    case round =>
      clear hx x4 x8 B q3 f3 l3 c3 c4 fg3 fg4 lg
      obtain ⟨k, i, hik, hin, rfl, hx, x4, x8, B⟩ := hrel
      by_cases hlt : i < n
      · obtain ⟨p, hp, p1, p2⟩ := hps.out i hlt
        obtain ⟨q4, f4, l4⟩ := x4.all
        obtain ⟨qg, fg, lg⟩ := hx.all
        have e5 : j * 6 + (k + 1) * 6 + 5 = i * 6 + 5 := by omega
        have c5 : wr.cell? ⟨g, i * 6 + 5, none⟩ = some (.int .i64 p) := by
          rw [qg, ← e5, trimC_ahead _ _ _ _ _ _ _ (Nat.lt_succ_self k), e5, ← hp]
          exact Hcs.out i hlt
        have f5 := fg (i * 6 + 5)
        have Hset := Lib.hid (show Bx (wr.setCell ⟨g, i * 6 + 5, none⟩ (.int .i64 (p + q))) g 104 (trimC cs (j * 6) q out (fun i => (es.getD (j + i) default).pos) (k + 1)) by
          rw [trimC, e5, show j + (k + 1) = i by omega, hp]; exact Bx.set hx _ _)
        have Hik := Lib.hid hik
        have hii : (i : Int) < (n : Int) := by omega
        clear qg fg hp e5 hik
        go_wp2_with fail
        go_roundw
        case rel => exact ⟨k + 1, i + 1, by have := Hik.out; omega, by omega, by go_num, Hset.out, Bx.other x4 _ _ (by simp; omega), Bx.other x8 _ _ (by simp; omega), bput (by omega) B⟩
        case measure => simp [intOf]; omega
      · have hin' : i = n := by omega
        have hx' := hx
        have hH' := HH.out.trim j (by have := Hn.out; omega) q k (by have := Hn.out; omega)
        rw [Hio.out.2, show trimL es j q k = es' by rw [← he, trimE, ← Hn.out]; congr 1; omega] at hH'
        have hnn : decide ((i : Int) < (n : Int)) = false := decide_eq_false (by omega)
        clear hx hik
        have hl' : es'.length = es.length := by rw [← he, trimE, trimL_length]
        have hn' : n = es'.length := by rw [hl']; exact Hn.out
        have hsl : SlE wr (.slice (some ⟨g, 0, none⟩) n c') es' := by rw [hn']; exact hH'.slE hx' (by unfold maxLen; omega) c'
        have HH' := Lib.hid (And.intro hn' hH')
        have Hsl := Lib.hid hsl
        clear hl' hn' hsl hH'
        obtain ⟨q3, f3, l3⟩ := x4.all
        obtain ⟨q8, f8, l8⟩ := x8.all
        go_wp2_with fail
        refine (ref_EditsError t r _ es' _ Hsl.out).mono ?_
        rintro e w4 ⟨rfl, hb4⟩
        rw [← Hr.out]
        replace x4 := x4.keep hb4
        replace x8 := x8.keep hb4
        replace B := bcall B hb4
        replace hx' := hx'.keep hb4
        clear hb4 q3 f3 l3 q8 f8 l8 Hsl
        obtain ⟨q3, f3, l3⟩ := x4.all
        obtain ⟨q8, f8, l8⟩ := x8.all
        by_cases h9 : er = 0
        · subst h9
          go_wp2_with fail
          refine bodyPost_ret (v := .tuple #[.agg #[.string t, .int .i64 r, .slice (some ⟨g, 0, none⟩) n c'], .int .i64 0]) (by simp [results, Tryd.results22, go_sem, q8]) rfl (turned_ok rfl ?_ (offB_at (by omega) _ _ _) ?_)
          · rw [HH'.out.1]
            refine HH'.out.2.slE (Bx.other (Bx.other (Bx.other hx' _ _ (by simp; omega)) _ _ (by simp; omega)) _ _ (by simp; omega)) (by rw [← HH'.out.1]; unfold maxLen; omega) c'
          · exact bput (by omega) (bput (by omega) (bput (by omega) B))
        · have hne : (er != 0) = true := by simpa using h9
          go_wp2_with fail
          refine bodyPost_ret (v := .tuple #[.agg #[.string ⟨#[]⟩, .int .i64 0, .slice none 0 0], .int .i64 er]) (by simp [results, Tryd.results22, go_sem, q8]) rfl (turned_bad h9 ?_)
          exact bput (by omega) (bput (by omega) (bput (by omega) B))
end Go.Proofs.YtjicgbpnplmpbaaDoor
