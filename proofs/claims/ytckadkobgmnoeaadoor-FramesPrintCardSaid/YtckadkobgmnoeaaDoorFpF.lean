/- frame.row: a row of a frame's text. (printed by gen_fpf.py) -/
import Derived.Test.YtckadkobgmnoeaaDoorFpE
import Derived.Deep.DeepCutAuto
namespace Go.Proofs.YtckadkobgmnoeaaDoor
open Go.RowKit

def fV (v : Nat × Int) : Value := .float .f32 v.1
theorem wordsV_none {ws : List ByteArray} {us : List (Nat × Int)} {j : Nat} {w : ByteArray} (h : wordsV ws = (wordsV (ws.drop j)).map (us ++ ·)) (hw : ws[j]? = some w) (h9 : (hexR w.data.toList).2 = 9) : wordsV ws = none := by
  obtain ⟨hj, rfl⟩ := List.getElem?_eq_some_iff.1 hw
  rw [h, List.drop_eq_getElem_cons hj, wordsV, if_pos h9]; rfl
theorem words_next {ws : List ByteArray} {us : List (Nat × Int)} {j : Nat} {w : ByteArray} {hv : Nat} {he : Int} (h : wordsV ws = (wordsV (ws.drop j)).map (us ++ ·)) (hw : ws[j]? = some w) (hx : hexR w.data.toList = (hv, he)) (h9 : he ≠ 9) : wordsV ws = (wordsV (ws.drop (j + 1))).map ((us ++ [(hv, he)]) ++ ·) := by
  obtain ⟨hj, rfl⟩ := List.getElem?_eq_some_iff.1 hw
  rw [h, List.drop_eq_getElem_cons hj, wordsV, hx, if_neg h9]
  cases wordsV (ws.drop (j + 1)) <;> simp
theorem words_all4 {ws : List ByteArray} {us : List (Nat × Int)} {j : Nat} (h : wordsV ws = (wordsV (ws.drop j)).map (us ++ ·)) (hj : ws.length ≤ j) : wordsV ws = some us := by
  rw [h, List.drop_eq_nil_of_le hj, wordsV]; simp
theorem row_none4 {P : List ByteArray} {vs : List (Nat × Int)} {i : Nat} {p : ByteArray} (h : rowV P = (rowV (P.drop i)).map (vs ++ ·)) (hp : P[i]? = some p) (h4 : (spl spB p).length ≠ 4) : rowV P = none := by
  obtain ⟨hi, rfl⟩ := List.getElem?_eq_some_iff.1 hp
  rw [h, List.drop_eq_getElem_cons hi, rowV, if_neg h4]; rfl
theorem row_noneW {P : List ByteArray} {vs : List (Nat × Int)} {i : Nat} {p : ByteArray} (h : rowV P = (rowV (P.drop i)).map (vs ++ ·)) (hp : P[i]? = some p) (h4 : wordsV (spl spB p) = none) : rowV P = none := by
  obtain ⟨hi, rfl⟩ := List.getElem?_eq_some_iff.1 hp
  rw [h, List.drop_eq_getElem_cons hi, rowV]
  split
  · rw [h4]; rfl
  · rfl
theorem row_next {P : List ByteArray} {vs us : List (Nat × Int)} {i : Nat} {p : ByteArray} (h : rowV P = (rowV (P.drop i)).map (vs ++ ·)) (hp : P[i]? = some p) (h4 : (spl spB p).length = 4) (hw : wordsV (spl spB p) = some us) : rowV P = (rowV (P.drop (i + 1))).map ((vs ++ us) ++ ·) := by
  obtain ⟨hi, rfl⟩ := List.getElem?_eq_some_iff.1 hp
  rw [h, List.drop_eq_getElem_cons hi, rowV, if_pos h4, hw]
  show ((rowV _).map (us ++ ·)).map (vs ++ ·) = _
  rw [Option.map_map]
  congr 1
  funext x
  simp
theorem row_all {P : List ByteArray} {vs : List (Nat × Int)} {i : Nat} (h : rowV P = (rowV (P.drop i)).map (vs ++ ·)) (hi : P.length ≤ i) : rowV P = some vs := by
  rw [h, List.drop_eq_nil_of_le hi, rowV]; simp
theorem worst_app (b : Int) (vs us : List (Nat × Int)) (v : Nat × Int) : worst b (vs ++ (us ++ [v])) = if v.2 = 0 then worst b (vs ++ us) else v.2 := by
  unfold worst
  rw [← List.append_assoc, List.foldl_append]; rfl
theorem hexR_codes (l : List UInt8) : (hexR l).2 = 0 ∨ (hexR l).2 = 2 ∨ (hexR l).2 = 9 := by
  unfold hexR
  split
  · split
    · exact .inr (.inr rfl)
    · unfold hexV
      split
      · exact .inr (.inl rfl)
      · exact .inl rfl
  · exact .inr (.inr rfl)
/-- append of one value: the owned slice grows; blocks of other types stay. -/
theorem ov_append2 {B : Nat} {w : World} {T TS : TypeId} {z : Value} {bytes : Nat} (hinfo : (Tryd.prog.info? T).map (fun i => (i.zero, i.size, i.bytes)) = some (some z, 1, bytes)) (hu : Tryd.prog.underlying TS = some (.slice T)) (hz1 : z.cells.size = 1) {L : List Value} {x v : Value} {ops : Array Oper} {rest : List Oper} {o : Oper} {a : Act} {Q : Exit → Act → World → Prop} (hgd : o.guard = none) (s y : Operand)
    (ho : o.op = .call { callee := .builtin .append, args := #[s, y], argTypes := #[TS, TS] }) (hs : a.eval s = v) (g c : Nat) (hx : a.eval y = .slice (some ⟨g, 0, none⟩) 1 c) (hm : OutV B w T v L)
    (hc : Bx w g T #[x]) (hx1 : x.oneCell' = true) (hl : L.length + 1 ≤ 9223372036854775807) (hl2 : (L.length + 1) * bytes ≤ 140737488355328) (hB : B ≤ w.heap.size)
    (h : ∀ v' w', OutV B w' T v' (L ++ [x]) → (∀ B0 W0, B0 ≤ B → Below B0 W0 w → Below B0 W0 w') → (∀ g' T' cs, T' ≠ T → Bx w g' T' cs → Bx w' g' T' cs) → wpList Tryd.prog ops Q rest (a.put o.dst v') w') :
    wpList Tryd.prog ops Q (o :: rest) a w := by
  obtain ⟨i0, hi, hz0, hzz, hz2⟩ := info_parts hinfo
  have hml : maxLen = 9223372036854775807 := rfl
  refine wpList_append_own w hgd s y TS ho B T i0 z 1 bytes hu hi hz0 hzz hz2 hz1 (by decide) v L.length L hs hm ⟨g, 0, none⟩ 1 c [x] hx rfl ?_ ?_ (by omega) hl2 hB ?_
  · intro j u hj
    have := hc.all.1 j
    rw [show ((⟨g, 0, none⟩ : Addr).add j) = ⟨g, j, none⟩ by simp [Addr.add]; intro e; exact e.symm, this]
    simpa using hj
  · intro u hu
    simp at hu
    subst hu
    exact hx1
  · intro v' w' hown hgrow _
    refine h v' w' ?_ (fun B0 W0 hB0 hb => ?_) (fun g' T' cs hT x => ?_)
    · unfold OutV
      rw [List.length_append]
      exact hown
    · refine hb.grown hgrow (by omega) (fun k hk => ?_)
      rcases hm.2 with ⟨h0, _⟩ | ⟨g1, cap1, cur, e1, e2, e3, _⟩
      · rw [h0] at hk; cases hk
      · rw [e1] at hk
        simp only [Value.ownBlock, Option.some.injEq] at hk
        omega
    · unfold Bx at *
      rw [hgrow.block g' (Array.getElem?_eq_some_iff.1 x).1 (fun hk => ?_)]; exact x
      rcases hm.2 with ⟨h0, _⟩ | ⟨g1, cap1, cur, e1, e2, e3, _⟩
      · rw [h0] at hk; cases hk
      · rw [e1] at hk
        simp only [Value.ownBlock, Option.some.injEq] at hk
        have hk' : g1 = g' := hk.symm
        rw [hk'] at e3
        rw [e3] at x
        simp only [Option.some.injEq, Obj.cells.injEq] at x
        exact hT x.2.1.symm

def RowO (rv : List Nat) (re : Int) (W : World) (e : Ending) (w' : World) : Prop := ∃ v, e = .returned (.tuple #[v, .int .i64 re]) ∧ OutV W.heap.size w' 39 v (rv.map fun b => .float .f32 b) ∧ Below W.heap.size W w'

set_option maxRecDepth 100000 in
set_option maxHeartbeats 8000000 in
theorem frame_row (l : ByteArray) (many : Int) (W : World) (E : Env W) (hl : l.size ≤ 1048576) : Calls Tryd.prog 23 #[.string l, .int .i64 many] W fun e w' => RowO (rowR l many).1 (rowR l many).2 W e w' := by
  obtain ⟨P, hP⟩ : ∃ P, spl barB l = P := ⟨_, rfl⟩
  have hPs : ∀ p, p ∈ P → p.size ≤ 1048576 := fun p hp => by rw [← hP] at hp; have := spl_mem_size (by decide) hp; omega
  have hPl : P.length ≤ 1048577 := by
    rw [← hP, spl_len (by decide)]
    have := Lib.countB_le barB (by decide) _ l (Nat.le_refl _); omega
  obtain ⟨rv, re, hr⟩ : ∃ rv re, rowR l many = (rv, re) := ⟨_, _, rfl⟩
  rw [hr]
  unfold rowR at hr
  rw [hP] at hr
  have HR := Lib.hid hr
  have HP := Lib.hid hP
  have HS := Lib.hid hPs
  clear hr hP hPs
  go_enter Tryd.func23, Tryd.ntmps23
  go_wp2_with fail
  refine (split_at l barB _ E hl (by decide)).mono ?_
  rintro e w2 ⟨rfl, xp, B⟩
  rw [HP.out] at xp ⊢
  obtain ⟨gp, hgp⟩ : ∃ gp, gp = W.heap.size := ⟨_, rfl⟩
  rw [← hgp] at xp ⊢
  have hgW : W.heap.size ≤ gp := Nat.le_of_eq hgp.symm
  clear hgp
  obtain ⟨n, hn⟩ : ∃ n, P.length = n := ⟨_, rfl⟩
  rw [hn] at hPl ⊢
  by_cases hmany : (n : Int) = many
  rotate_left
  · have hne : ((n : Int) != many) = true := bne_iff_ne.2 hmany
    have hz : (rv, re) = (([] : List Nat), (9 : Int)) := by
      have h1 := HR.out
      rw [hn, if_neg hmany] at h1
      exact h1.symm
    cases hz
    go_wp2_with fail
    go_ret2
    exact ⟨_, rfl, OutV.nil _ _ _, B⟩
  have HR2 : Hid ((match rowV P with | none => (([] : List Nat), (9 : Int)) | some vs => (vs.map (·.1), worst 0 vs)) = (rv, re)) := Lib.hid (by
    have h1 := HR.out
    rw [hn, if_pos hmany] at h1
    exact h1)
  have hne : ((n : Int) != many) = false := bne_eq_false_iff_eq.2 hmany
  have Hn := Lib.hid hn
  clear HR hmany hn
  go_wp2_with fail
  go_loopw [7, 8, 24] (fun ov bv iv wr => ∃ (i : Nat) (vs : List (Nat × Int)) (vo : Value), ov = vo ∧ bv = .int .i64 (worst 0 vs) ∧ iv = .int .i64 (i : Int) ∧ i ≤ n ∧ vs.length ≤ 4 * i ∧ OutV W.heap.size wr 39 vo (vs.map fV) ∧ Below W.heap.size W wr ∧ Bx wr gp 9 (P.map Value.string).toArray ∧ Hid (rowV P = (rowV (P.drop i)).map (vs ++ ·))) (fun _ _ iv _ => n - (intOf iv).toNat)
  case atStart => exact ⟨0, [], _, rfl, rfl, rfl, Nat.zero_le _, Nat.zero_le _, OutV.nil _ _ _, B, xp, Lib.hid (by rw [List.drop_zero]; cases rowV P <;> rfl)⟩
  case round =>
    clear xp B
    obtain ⟨i, vs, vo, rfl, rfl, rfl, hi, hvs, ho, B, xp, Hv⟩ := hrel
    by_cases hlt : i < n
    rotate_left
    · have hd : decide ((i : Int) < (n : Int)) = false := decide_eq_false (by omega)
      have hz : (rv, re) = (vs.map (·.1), worst 0 vs) := by
        have h1 := HR2.out
        rw [row_all Hv.out (by rw [Hn.out]; omega)] at h1
        exact h1.symm
      cases hz
      go_wp2_with fail
      go_ret2
      exact ⟨_, rfl, by rw [List.map_map]; exact ho, B⟩
    have hlP : i < P.length := by rw [Hn.out]; exact hlt
    obtain ⟨p, hp⟩ : ∃ p, P[i]? = some p := ⟨_, List.getElem?_eq_getElem hlP⟩
    have Hp := Lib.hid hp
    have hps := HS.out p (List.mem_of_getElem? hp)
    have pc : wr.cell? ⟨gp, i, none⟩ = some (.string p) := by
      rw [xp.all.1 i, List.getElem?_toArray, List.getElem?_map, hp]; rfl
    clear hp hlP
    go_wp2_with fail
    refine (split_at p spB _ (E.below B) hps (by decide)).mono ?_
    rintro e w3 ⟨rfl, xw, B2⟩
    obtain ⟨ws, hws⟩ : ∃ ws, spl spB p = ws := ⟨_, rfl⟩
    rw [hws] at xw ⊢
    have hwz : ∀ x, x ∈ ws → x.size ≤ 1048576 := fun x hx => by rw [← hws] at hx; have := spl_mem_size (by decide) hx; omega
    have HWZ := Lib.hid hwz
    have HW := Lib.hid hws
    clear hws hwz
    obtain ⟨gw, hgw⟩ : ∃ gw, gw = wr.heap.size := ⟨_, rfl⟩
    rw [← hgw] at xw ⊢
    replace ho := ho.below B2
    replace xp := xp.keep B2
    replace B : Below W.heap.size W w3 := B.trans (B2.mono B.size)
    clear hgw B2 pc
    obtain ⟨k, hk⟩ : ∃ k, ws.length = k := ⟨_, rfl⟩
    rw [hk]
    by_cases hk4 : k = 4
    rotate_left
    · have hne4 : ((k : Int) != 4) = true := bne_iff_ne.2 (by omega)
      have hz : (rv, re) = (([] : List Nat), (9 : Int)) := by
        have h1 := HR2.out
        rw [row_none4 Hv.out Hp.out (by rw [HW.out, hk]; exact hk4)] at h1
        exact h1.symm
      cases hz
      go_wp2_with fail
      go_ret2
      exact ⟨_, rfl, OutV.nil _ _ _, B⟩
    subst hk4
    have Hk := Lib.hid hk
    clear hk
    go_wp2_with fail
    go_loopw [7, 8, 35] (fun ov bv jv wr => ∃ (j : Nat) (us : List (Nat × Int)) (vo : Value), ov = vo ∧ bv = .int .i64 (worst 0 (vs ++ us)) ∧ jv = .int .i64 (j : Int) ∧ j ≤ 4 ∧ us.length = j ∧ OutV W.heap.size wr 39 vo ((vs ++ us).map fV) ∧ Below W.heap.size W wr ∧ Bx wr gp 9 (P.map Value.string).toArray ∧ Bx wr gw 9 (ws.map Value.string).toArray ∧ Hid (wordsV ws = (wordsV (ws.drop j)).map (us ++ ·))) (fun _ _ jv _ => 4 - (intOf jv).toNat)
    case atStart => exact ⟨0, [], _, rfl, by rw [List.append_nil], rfl, Nat.zero_le _, rfl, by rw [List.append_nil]; exact ho, B, xp, xw, Lib.hid (by rw [List.drop_zero]; cases wordsV ws <;> rfl)⟩
    case round =>
      clear xp B xw ho
      obtain ⟨j, us, vo, rfl, rfl, rfl, hj, hus, ho, B, xp, xw, Hw⟩ := hrel
      by_cases hjlt : j < 4
      rotate_left
      · obtain rfl : j = 4 := by omega
        go_wp2_with fail
        go_roundw
        case rel => exact ⟨i + 1, vs ++ us, _, rfl, rfl, by go_num, by omega, by rw [List.length_append]; omega, ho, B, xp, Lib.hid (row_next Hv.out Hp.out (by rw [HW.out]; exact Hk.out) (by rw [HW.out]; exact words_all4 Hw.out (by rw [Hk.out]; exact Nat.le_refl _)))⟩
        case measure => simp [intOf]; omega
      have hjw : j < ws.length := by rw [Hk.out]; exact hjlt
      obtain ⟨x, hx⟩ : ∃ x, ws[j]? = some x := ⟨_, List.getElem?_eq_getElem hjw⟩
      have Hx := Lib.hid hx
      have pc : wr.cell? ⟨gw, j, none⟩ = some (.string x) := by
        rw [xw.all.1 j, List.getElem?_toArray, List.getElem?_map, hx]; rfl
      obtain ⟨hv, he, hex⟩ : ∃ hv he, hexR x.data.toList = (hv, he) := ⟨_, _, rfl⟩
      have hco := hexR_codes x.data.toList
      rw [hex] at hco
      have HE := Lib.hid hex
      clear hx hjw hex
      by_cases hne9 : he = 9
      · subst hne9
        have hz : (rv, re) = (([] : List Nat), (9 : Int)) := by
          have h1 := HR2.out
          rw [row_noneW Hv.out Hp.out (by rw [HW.out]; exact wordsV_none Hw.out Hx.out (by rw [HE.out]))] at h1
          exact h1.symm
        cases hz
        go_wp2_with (go_at_call 37; refine (num_ParseHex x _).mono ?_; rw [HE.out]; rintro e w6 ⟨rfl, hw⟩; rw [← hw]; clear hw)
        go_ret2
        exact ⟨_, rfl, OutV.nil _ _ _, B⟩
      have h9 : (he == 9) = false := beq_eq_false_iff_ne.2 hne9
      by_cases he0 : he = 0
      · subst he0
        go_upto_region 20 with (go_at_call 37; refine (num_ParseHex x _).mono ?_; rw [HE.out]; rintro e w6 ⟨rfl, hw⟩; rw [← hw]; clear hw)
        refine name_world ?_
        intro wr0 hwr0
        rw [← hwr0] at ho B xp xw
        clear hwr0 pc
        go_wp2_with (at_builtin; refine ov_append2 infoF Tryd.underlying24 rfl (x := .float .f32 hv) rfl (.tmp 50) (.tmp 52) rfl rfl wr0.heap.size 1 rfl (ho.below below_al) (Bx.new wr0 39 #[.float .f32 hv]) rfl ?aa ?ab ?ac ?_)
        case aa => rw [List.length_map, List.length_append]; omega
        case ab => rw [List.length_map, List.length_append]; omega
        case ac => exact Nat.le_trans B.size below_al.size
        intro v5 w5 ho5 hb5 hx5
        have B5 := hb5 _ _ (Nat.le_refl _) (bnew B)
        have xw5 := hx5 _ _ _ (by decide) (Bx.alloc xw (.cells #[.float .f32 hv] 39))
        have xp5 := hx5 _ _ _ (by decide) (Bx.alloc xp (.cells #[.float .f32 hv] 39))
        replace ho5 : OutV W.heap.size w5 39 v5 ((vs ++ (us ++ [(hv, 0)])).map fV) := by simpa [fV] using ho5
        clear hb5 hx5 ho B xw xp
        go_wp2_with fail
        go_roundw
        case rel => exact ⟨j + 1, us ++ [(hv, 0)], v5, rfl, by rw [worst_app, if_pos rfl], by go_num, by omega, by rw [List.length_append, hus]; rfl, ho5, B5, xp5, xw5, Lib.hid (words_next Hw.out Hx.out HE.out hne9)⟩
        case measure => simp [intOf]; omega
      · have h0 : (he != 0) = true := bne_iff_ne.2 he0
        go_upto_region 20 with (go_at_call 37; refine (num_ParseHex x _).mono ?_; rw [HE.out]; rintro e w6 ⟨rfl, hw⟩; rw [← hw]; clear hw)
        refine name_world ?_
        intro wr0 hwr0
        rw [← hwr0] at ho B xp xw
        clear hwr0 pc
        go_wp2_with (at_builtin; refine ov_append2 infoF Tryd.underlying24 rfl (x := .float .f32 hv) rfl (.tmp 50) (.tmp 52) rfl rfl wr0.heap.size 1 rfl (ho.below below_al) (Bx.new wr0 39 #[.float .f32 hv]) rfl ?ba ?bb ?bc ?_)
        case ba => rw [List.length_map, List.length_append]; omega
        case bb => rw [List.length_map, List.length_append]; omega
        case bc => exact Nat.le_trans B.size below_al.size
        intro v5 w5 ho5 hb5 hx5
        have B5 := hb5 _ _ (Nat.le_refl _) (bnew B)
        have xw5 := hx5 _ _ _ (by decide) (Bx.alloc xw (.cells #[.float .f32 hv] 39))
        have xp5 := hx5 _ _ _ (by decide) (Bx.alloc xp (.cells #[.float .f32 hv] 39))
        replace ho5 : OutV W.heap.size w5 39 v5 ((vs ++ (us ++ [(hv, he)])).map fV) := by simpa [fV] using ho5
        clear hb5 hx5 ho B xw xp
        go_wp2_with fail
        go_roundw
        case rel => exact ⟨j + 1, us ++ [(hv, he)], v5, rfl, by rw [worst_app, if_neg he0], by go_num, by omega, by rw [List.length_append, hus]; rfl, ho5, B5, xp5, xw5, Lib.hid (words_next Hw.out Hx.out HE.out hne9)⟩
        case measure => simp [intOf]; omega
end Go.Proofs.YtckadkobgmnoeaaDoor
