/- conform.Sources of a right list. (printed by gen_emc.py) -/
import Derived.Test.YteebkfdocdmboaaDoorEmF
import Derived.Deep.RegionHeld3
namespace Go.Proofs.YteebkfdocdmboaaDoor
open Go.RowKit
set_option maxRecDepth 100000 in
theorem bits_Len64_zero (W : World) : Calls Tryd.prog 53 #[.int .u64 0] W fun e w' => e = .returned (.int .i64 0) ∧ W = w' := by
  go_enter Tryd.func53, Tryd.ntmps53
  go_wp2
  go_ret
  exact ⟨by kernel_rfl, rfl⟩

set_option maxRecDepth 100000 in
theorem bits_Len_zero (W : World) : Calls Tryd.prog 36 #[.int .u64 0] W fun e w' => e = .returned (.int .i64 0) ∧ W = w' := by
  go_enter Tryd.func36, Tryd.ntmps36
  go_wp2_with (go_at_call 53; refine (bits_Len64_zero _).mono ?_; rintro e w' ⟨rfl, rfl⟩)
  go_ret
  exact ⟨rfl, rfl⟩
set_option maxRecDepth 100000 in
set_option maxHeartbeats 8000000 in
theorem sort_nil (W : World) : Calls Tryd.prog 20 #[.slice none 0 0] W fun e w' => e = .returned (.tuple #[]) ∧ w' = W := by
  have h1 : Calls Tryd.prog 43 #[.slice none 0 0, .int .i64 0, .int .i64 0] W fun e w' => e = .returned (.tuple #[]) ∧ w' = W := by
    go_enter Tryd.func43, Tryd.ntmps43
    go_wp2_with fail
    go_loopw [6] (fun iv wr => iv = .int .i64 1 ∧ wr = W) (fun _ _ => 0)
    case atStart => exact ⟨rfl, by trivial⟩
    case round =>
      obtain ⟨rfl, rfl⟩ := hrel
      go_wp2_with fail
      go_end0
      exact ⟨rfl, rfl⟩
  have h2 : ∀ q, Calls Tryd.prog 35 #[.slice none 0 0, .int .i64 0, .int .i64 0, .int .i64 q] W fun e w' => e = .returned (.tuple #[]) ∧ w' = W := by
    intro q
    go_enter Tryd.func35, Tryd.ntmps35
    go_wp2_with fail
    go_loopw [1, 2] (fun av bv wr => av = .int .i64 0 ∧ bv = .int .i64 0 ∧ wr = W) (fun _ _ _ => 0)
    case atStart => exact ⟨rfl, rfl, by trivial⟩
    case round =>
      obtain ⟨rfl, rfl, rfl⟩ := hrel
      go_wp2_with fail
      refine h1.mono ?_
      rintro e w2 ⟨rfl, rfl⟩
      go_wp2_with fail
      first | go_end0 | (simp only [Exit.inBlock, Exit.then]; refine bodyPost_ret (results_none rfl _ _ _) rfl ?_) | refine bodyPost_ret (results_none rfl _ _ _) rfl ?_
      exact ⟨rfl, rfl⟩
  have h3 : Calls Tryd.prog 36 #[.int .u64 0] W fun e w' => ∃ q, e = .returned (.int .i64 q) ∧ w' = W := by
    refine (bits_Len_zero W).mono ?_
    rintro e w2 ⟨rfl, rfl⟩
    exact ⟨_, rfl, rfl⟩
  go_enter Tryd.func20, Tryd.ntmps20
  go_wp2_with fail
  refine h3.mono ?_
  rintro e w2 ⟨q, rfl, rfl⟩
  go_wp2_with fail
  refine (h2 q).mono ?_
  rintro e w3 ⟨rfl, rfl⟩
  go_wp2_with fail
  go_end0
  exact ⟨rfl, rfl⟩

theorem pl_step {B : Nat} {w : World} {L : List Pl} {p : Pl} {v : Value} {ops : Array Oper} {o : Oper} {a : Act} {K : Act → World → Prop} {Q : Exit → Act → World → Prop} {E : Prop} (hgd : o.guard = none) (s x : Operand)
    (ho : o.op = .call { callee := .builtin .append, args := #[s, x], argTypes := #[33, 33] }) (hs : a.eval s = v) (g : Nat) (hx : a.eval x = .slice (some ⟨g, 0, none⟩) 1 1) (hm : OwnQ B w v L)
    (hc : Bx w g 38 #[.string p.reel, .int .i64 p.inn, .int .i64 p.out]) (hl : L.length ≤ 1000000) (hB : B ≤ w.heap.size)
    (h : ∀ v' w', OwnQ B w' v' (L ++ [p]) → Apd B w w' v v' → K (a.put o.dst v') w') :
    if Region.wanted o (yielded ops a.tmps) = true then Oper.wp Tryd.prog o a w K Q else E := by
  obtain ⟨i0, hi, hz0, hz1, hz2⟩ := info_parts infoP
  have hml : maxLen = 9223372036854775807 := rfl
  refine step_append_lies w hgd s x 33 ho B 38 i0 (.agg #[.string ⟨#[]⟩, .int .i64 0, .int .i64 0]) 3 32 Tryd.underlying33 hi hz0 hz1 hz2 rfl (by decide) _ L.length (plCells L) hs hm ⟨g, 0, none⟩ 1 1 (plCells [p]) hx rfl ?_ plCells_one (by omega) (by omega) (by omega) hB _ rfl ?_
  · intro j u hj
    have := hc.all.1 j
    rw [show ((⟨g, 0, none⟩ : Addr).add j) = ⟨g, j, none⟩ by simp [Addr.add]; intro e; exact e.symm, this]
    simpa [plCells, plC] using hj
  · intro g' cap' w' hown hgrow hat hlt
    have hg' : v.ownBlock = some g' ∨ g' = w.heap.size := hat
    refine h _ w' ?_ ⟨hgrow, hgrow.size, g', cap', _, rfl, hg', ?_, hlt⟩
    · unfold OwnQ
      rw [plCells_append, List.length_append]; exact hown
    · rcases hg' with e | e
      · exact (OwnQ.base hm g' e).1
      · omega

/-- What holds when the first j reels have been gone through. -/
structure Lp (B2 r : Nat) (rv : Value) (E : List (ByteArray × Value)) (P : List Pl) (T : List ByteArray) (j : Nat) (D : List Pl) (ov : Value) (w : World) : Prop where
  grp : Grp P (T.take j) D
  vl : St.VL Vp D
  out : OwnQ B2 w ov (mList D)
  map : MapS w r E
  reels : OwnS (r + 1) w rv T
  rows : ∀ s, s ∉ T.take j → OwnQ (r + 1) w (atE E s) (ofR P s)
  size : B2 ≤ w.heap.size
theorem OwnQ.slice {B : Nat} {w : World} {v : Value} {L : List Pl} (h : OwnQ B w v L) : ∃ a c, v = .slice a L.length c := by
  rcases h.form with ⟨rfl, rfl⟩ | ⟨g, cap, rfl, _⟩
  · exact ⟨_, _, rfl⟩
  · exact ⟨_, _, rfl⟩
/-- One reel's pulls have been ordered. -/
theorem Lp.sorted {B2 r : Nat} {rv : Value} {E : List (ByteArray × Value)} {P : List Pl} {T : List ByteArray} {j : Nat} {D : List Pl} {ov : Value} {w w' : World} {s : ByteArray} {g m c : Nat} (h : Lp B2 r rv E P T j D ov w) (hV : atE E s = .slice (some ⟨g, 0, none⟩) m c) (hg : g < B2 ∧ r < g ∧ rv.ownBlock ≠ some g)
    (hsep : ∀ s t, s ≠ t → ∀ g, (atE E s).ownBlock = some g → (atE E t).ownBlock ≠ some g) (oth : Oth g w w') :
    OwnQ B2 w' ov (mList D) ∧ MapS w' r E ∧ OwnS (r + 1) w' rv T ∧ (∀ t, t ∉ T.take j → t ≠ s → OwnQ (r + 1) w' (atE E t) (ofR P t)) ∧ B2 ≤ w'.heap.size := by
  refine ⟨own_keepg h.out fun g' hg' hlt => oth.block g' hlt ?_, h.map.oth oth (by omega), own_keepg h.reels fun g' hg' hlt => oth.block g' hlt ?_, fun t ht hne => own_keepg (h.rows t ht) fun g' hg' hlt => oth.block g' hlt ?_, Nat.le_trans h.size oth.size⟩
  · have := (OwnQ.base h.out g' hg').1; omega
  · rintro rfl; exact hg.2.2 hg'
  · rintro rfl
    exact hsep s t (fun e => hne e.symm) g' (by rw [hV]; rfl) hg'
theorem Lp.next {B2 r : Nat} {rv : Value} {E : List (ByteArray × Value)} {P : List Pl} {T : List ByteArray} {j : Nat} {D Z : List Pl} {ov : Value} {w w1 : World} {s : ByteArray} (hG : Grp P (T.take j) D) (hD : St.VL Vp D) (hvP : St.VL Vp P) (hT : T.Pairwise fun a b => cbR a b < 0) (hj : j < T.length) (hs : s = T.getD j default)
    (sZ : St.Srt cP Z) (tZ : St.Stb cP Vp (ofR P s) Z) (vZ : St.VL Vp Z) (hm : MapS w r E) (hr : OwnS (r + 1) w rv T) (hrw : ∀ t, t ∉ T.take j → t ≠ s → OwnQ (r + 1) w (atE E t) (ofR P t)) (hB : B2 ≤ w.heap.size)
    (hlo : ∀ t g, (atE E t).ownBlock = some g → g < B2) (hloR : ∀ g, rv.ownBlock = some g → g < B2) (hloM : r < B2) (hb : Below B2 w w1) (ho : OwnQ B2 w1 ov (mList (D ++ Z))) : Lp B2 r rv E P T (j + 1) (D ++ Z) ov w1 := by
  have ht : T.take (j + 1) = T.take j ++ [s] := by
    rw [List.take_succ_eq_append_getElem hj, hs]
    congr 2
    simp [List.getD_eq_getElem?_getD, hj]
  refine ⟨?_, ?_, ho, ?_, own_keepg hr fun g hg _ => hb.block g (hloR g hg), fun t hts => ?_, Nat.le_trans hB hb.size⟩
  · rw [ht]
    exact Grp.snoc hG s (by rw [hs]; exact take_lt hT hj) hvP sZ tZ vZ
  · intro x hx
    rcases List.mem_append.1 hx with hx | hx
    · exact hD x hx
    · exact vZ x hx
  · unfold MapS
    rw [hb.block r hloM]; exact hm
  · rw [ht] at hts
    have h1 : t ∉ T.take j := fun h => hts (List.mem_append_left _ h)
    have h2 : t ≠ s := fun h => hts (by rw [h]; simp)
    exact own_keepg (hrw t h1 h2) fun g hg _ => hb.block g (hlo t g hg)
theorem mList_take (D Z : List Pl) {i : Nat} (hi : i < Z.length) : mList (D ++ Z.take (i + 1)) = mStep (mList (D ++ Z.take i)) (Z.getD i default) := by
  rw [List.take_succ_eq_append_getElem hi, ← List.append_assoc, mList_snoc]
  congr 1
  simp [List.getD_eq_getElem?_getD, hi]
theorem stb_reel {P Z : List Pl} {s : ByteArray} (hv : St.VL Vp P) (t : St.Stb cP Vp (ofR P s) Z) (vZ : St.VL Vp Z) : ∀ p ∈ Z, p.reel = s := fun p hp => by
  have hm : p ∈ ofR P s := t.mem cP_ord (fun x hx => hv x (List.mem_filter.1 hx).1) vZ hp
  simpa using (List.mem_filter.1 hm).2
theorem Grp.src {ps : List Pl} {S : List ByteArray} {D : List Pl} (h : Grp ps S D) (hS : ∀ p ∈ ps, p.reel ∈ S) : St.Stb cR Vp ps D := by
  have e : (ps.filter fun (p : Pl) => decide (p.reel ∈ S)) = ps := List.filter_eq_self.2 fun p hp => by simpa using hS p hp
  exact ⟨by rw [h.len, e], fun z _ => by rw [h.stb z, e]⟩
theorem Grp.dlen {ps : List Pl} {S : List ByteArray} {D : List Pl} (h : Grp ps S D) : D.length ≤ ps.length := by rw [h.len]; exact List.length_filter_le _ _

/-- A pull laid to its reel's others: what holds behind the append, and behind the map's update. -/
theorem r16_facts {B r p10 p11 : Nat} {w6 w7 : World} {ob : Obj} {E : List (ByteArray × Value)} {P : List Pl} {rv V v2 : Value} {S : List ByteArray} {reel : ByteArray} {mi ov : Int} {T10 : TypeId} {e1 e2 e3 e4 e5 : Value}
    (G : Gr B r w6 E P rv S) (x10 : Bx w6 p10 T10 #[.string reel, e1, e2, e3, e4, e5]) (x11 : Bx w6 p11 38 #[.string reel, .int .i64 mi, .int .i64 ov]) (hV : atE E reel = V) (hin : reel ∈ S)
    (hlo : ∀ g, (atE E reel).ownBlock = some g → g < p10) (h1 : r < p10) (h2 : p10 < p11) (hBs : B ≤ w6.heap.size) (own7 : OwnQ B w7 v2 (ofR P reel ++ [⟨reel, mi, ov⟩])) (ap : Apd B ((w6.alloc ob).drew) w7 V v2) :
    (Instr.mapUpdate 50 (.map (some r)) (.string reel) v2).run Tryd.prog w7 = .ok () (setMapS w7 r (putS E reel v2)) ∧
    (w7.cell? ⟨p10, 0, none⟩ = some (.string reel) ∧ w7.cell? ⟨p11, 0, none⟩ = some (.string reel) ∧ w7.cell? ⟨p11, 1, none⟩ = some (.int .i64 mi) ∧ w7.cell? ⟨p11, 2, none⟩ = some (.int .i64 ov)) ∧
    ((setMapS w7 r (putS E reel v2)).cell? ⟨p10, 0, none⟩ = some (.string reel) ∧ (setMapS w7 r (putS E reel v2)).cell? ⟨p11, 0, none⟩ = some (.string reel) ∧ (setMapS w7 r (putS E reel v2)).cell? ⟨p11, 1, none⟩ = some (.int .i64 mi) ∧ (setMapS w7 r (putS E reel v2)).cell? ⟨p11, 2, none⟩ = some (.int .i64 ov)) ∧
    Gr B r (setMapS w7 r (putS E reel v2)) (putS E reel v2) (P ++ [⟨reel, mi, ov⟩]) rv S ∧ (∀ w0, Below r w0 w6 → Below r w0 (setMapS w7 r (putS E reel v2))) := by
  have hb : Below w6.heap.size w6 ((w6.alloc ob).drew) := ((Below.refl _ _).alloc (Nat.le_refl _) _).drew
  have Ga := G.keep hb
  subst hV
  have hlt := G.lt
  have hne : ∀ p, p10 ≤ p → (atE E reel).ownBlock ≠ some p := fun p hp e => by have := hlo p e; omega
  have y10 := ap.bx (x10.keep hb) (hne _ (Nat.le_refl _))
  have y11 := ap.bx (x11.keep hb) (hne _ (by omega))
  have ym := ap.map Ga.map (fun e => by have := (OwnQ.base (Ga.row _) r e).1; omega)
  have on := setMapS_only w7 r (putS E reel v2)
  have z10 := on.bx (by omega) y10
  have z11 := on.bx (by omega) y11
  refine ⟨run_mapUpdate_s ym reel v2, ⟨y10.all.1 0, y11.all.1 0, y11.all.1 1, y11.all.1 2⟩, ⟨z10.all.1 0, z11.all.1 0, z11.all.1 1, z11.all.1 2⟩, Gr.push (p := ⟨reel, mi, ov⟩) Ga hin own7 ap, fun w0 hb0 => ?_⟩
  have h3 : Below r w0 w7 := ap.below (hb0.trans (hb.mono (by have := G.map.lt; omega))) (by omega) (Nat.le_trans hBs hb.size) (fun g hg => by have := (OwnQ.base (Ga.row _) g hg).1; omega)
  exact h3.trans ((Oth.of_only on).below (Nat.le_refl _) (by have := ym.lt; omega))

set_option maxRecDepth 100000 in
set_option maxHeartbeats 16000000 in
theorem conform_Sources (title : ByteArray) (rate : Int) (v : Value) (es : List Ev) (h : Int) (W : World) (hs : SlE W v es) (her : editsErr title rate es = 0) (h0 : 0 ≤ h) (h1 : h ≤ 1000) :
    Calls Tryd.prog 7 #[.agg #[.string title, .int .i64 rate, v], .int .i64 h] W fun e w' => ∃ sv L, e = .returned (.tuple #[sv, .int .i64 0]) ∧ IsSrc es h L ∧ OwnQ W.heap.size w' sv L ∧ Below W.heap.size W w' := by
  have Hck := Lib.hid (fun (u : World) (hu : Below W.heap.size W u) => conform_CheckList title rate v es u (hs.keep hu))
  obtain ⟨hok, hlen⟩ := editsErr_zero her
  rw [her] at Hck
  have n0 : ¬ h < 0 := by omega
  have n1 : ¬ 1000 < h := by omega
  obtain ⟨a, c, rfl, hmax, hform⟩ := hs
  have hv := pulls_vp hok h0 h1
  have hpl := pullsL_len es h
  obtain ⟨n, hn⟩ : ∃ n, n = es.length := ⟨_, rfl⟩
  rw [← hn] at hmax hlen hform hpl Hck ⊢
  have Hok := Lib.hid hok
  have HV := Lib.hid hv
  have Hn := Lib.hid hn
  have Hpl := Lib.hid hpl
  clear hok hv hn hmax hpl her
  go_enter Tryd.func7, Tryd.ntmps7
  go_upto_region 1 with fail
  refine name_world ?_
  intro w0 hw0
  have x2 : Bx w0 W.heap.size 24 #[.string title, .int .i64 rate, .slice a n c] := by rw [hw0]; exact Bx.new _ _ _
  have B0 : Below W.heap.size W w0 := by rw [hw0]; exact bnew (Below.refl _ W)
  have hs0 : w0.heap.size = W.heap.size + 1 := by rw [hw0]; simp
  clear hw0
  obtain ⟨q2, f2, l2⟩ := x2.all
  go_wp2_with fail
  refine (Hck.out w0 B0).mono ?_
  rintro e w1 ⟨rfl, hb1⟩
  replace x2 := x2.keep hb1
  have B1 := bcall B0 hb1
  have hs1 := hb1.size
  rw [hs0] at hs1
  have hmk := run_makeMap_s w1
  clear hb1 q2 f2 l2 B0 hs0
  go_upto_region 7 with fail
  refine name_world ?_
  intro w2 hw2
  have xm : MapS w2 w1.heap.size [] := by rw [hw2]; exact MapS.new w1
  have hs2 : w2.heap.size = w1.heap.size + 1 := by rw [hw2]; simp
  replace x2 : Bx w2 W.heap.size 24 #[.string title, .int .i64 rate, .slice a n c] := by rw [hw2]; exact x2.alloc _
  replace B1 : Below W.heap.size W w2 := by rw [hw2]; exact bnew' B1 (by omega)
  clear hw2 hmk
  generalize w1.heap.size = r at *
  obtain ⟨q2, f2, l2⟩ := x2.all
  go_wp2_with fail
  clear q2 f2 l2
  go_loopw [8, 34] (fun rv iv wr => ∃ (k : Nat) (S : List ByteArray) (E : List (ByteArray × Value)), k ≤ n ∧ S.length ≤ k ∧ iv = .int .i64 (k : Int) ∧ Gr (r + 1) r wr E ((pullsL es h).take k) rv S ∧ (∀ s ∈ S, ofR ((pullsL es h).take k) s ≠ []) ∧ Below r w2 wr) (fun _ iv _ => n - (intOf iv).toNat)
  case atStart => exact ⟨0, [], [], Nat.zero_le _, Nat.le_refl _, rfl, Gr.nil xm (by omega), (fun s hs => by cases hs), Below.refl _ _⟩
  case round =>
    obtain ⟨k, S, E, hk, hSl, rfl, G, hfull, B⟩ := hrel
    have x3 := x2.below B (by omega)
    have hsz := B.size
    rw [hs2] at hsz
    by_cases hlt : k < n
    · rcases hform with hf | ⟨b, o, rfl, hbl, hat⟩
      · exfalso
        have := Hn.out
        rw [hf] at this
        simp at this
        omega
      have HAt := Lib.hid hat
      have hB2 : Below W.heap.size W wr := B1.trans (B.mono (by omega))
      obtain ⟨c0, c1, c2, c3, c4, c5⟩ := (hat k hlt).keep hB2 hbl
      obtain ⟨b1, b2, b3, b4, b5, _, _⟩ := ev_bd Hok.out (k := k) (by rw [← Hn.out]; exact hlt)
      have hps := pullsL_take (h := h) (show k < es.length by rw [← Hn.out]; exact hlt)
      have hnl := nextLen_bd Hok.out k
      have hpa : pullAt es h k = ⟨(es.getD k default).reel, max ((es.getD k default).inn - h) 0, (es.getD k default).out + h + nextLen es k⟩ := rfl
      have hnx : nextLen es k = if k + 1 < n then (es.getD (k + 1) default).len else 0 := by unfold nextLen; rw [Hn.out]
      clear hat
      generalize pullAt es h k = pk at hps hpa
      generalize nextLen es k = nl at hnl hpa hnx
      generalize (es.getD k default).reel = reel at c0 hpa
      generalize (es.getD k default).kind = kind at c1
      generalize (es.getD k default).len = len at c2
      generalize (es.getD k default).inn = inn at c3 b1 b2 hpa
      generalize (es.getD k default).out = out at c4 b2 b3 hpa
      generalize (es.getD k default).pos = pos at c5 b4 b5
      obtain ⟨mi, hmi⟩ : ∃ mi, imax (inn - h) 0 = mi := ⟨_, rfl⟩
      have hmi2 : max (inn - h) 0 = mi := by rw [← hmi]; unfold imax; split <;> omega
      rw [hmi2] at hpa
      have hPl : (ofR ((pullsL es h).take k) reel).length ≤ 500 := by
        have := ofR_len ((pullsL es h).take k) reel
        rw [List.length_take] at this
        omega
      have hps2 : (pullsL es h).take (k + 1) = (pullsL es h).take k ++ [⟨reel, mi, out + h + nl⟩] := by rw [hps, hpa]
      obtain ⟨P, hP⟩ : ∃ P, P = (pullsL es h).take k := ⟨_, rfl⟩
      rw [← hP] at hps2 hPl G hfull
      have Hps := Lib.hid hps2
      have Hnx := Lib.hid hnx
      have Hfull := Lib.hid hfull
      have HPl := Lib.hid hPl
      clear hps hpa hmi2 hnx hfull hps2 hPl hP
      have hki : (k : Int) < (n : Int) := by omega
      go_upto_region 11 with fail
      refine name_world ?_
      intro w3 hw3
      have x10 : Bx w3 wr.heap.size 48 #[.string reel, .int .i64 kind, .int .i64 len, .int .i64 inn, .int .i64 out, .int .i64 pos] := by rw [hw3]; exact Bx.new _ _ _
      have hb3 : Below wr.heap.size wr w3 := by rw [hw3]; exact bnew (Below.refl _ _)
      clear hw3 c0 c1 c2 c3 c4 c5
      replace x3 := x3.keep hb3
      have hB3 := hB2.trans (hb3.mono (by omega))
      have hs3 := hb3.size
      have hszr := G.map.lt
      obtain ⟨p10, hp10⟩ : ∃ p, p = wr.heap.size := ⟨_, rfl⟩
      rw [← hp10] at x10 hb3 hs3 hszr hsz ⊢
      have Hp10 := Lib.hid hp10
      clear hp10
      have l10a := x10.lt
      obtain ⟨q8, f8, l8⟩ := x10.all
      go_upto_region 12 with fail
      refine name_world ?_
      intro w4 hw4
      have x11 : Bx w4 w3.heap.size 38 #[.string reel, .int .i64 mi, .int .i64 (out + h)] := by rw [hw4]; exact Bx.new _ _ _
      have hb4 : Below w3.heap.size w3 w4 := by rw [hw4]; exact bnew (Below.refl _ _)
      clear hw4 q8 f8 l8
      replace x3 := x3.keep hb4
      replace x10 := x10.keep hb4
      have hB4 := hB3.trans (hb4.mono (by omega))
      have hb4r := hb3.trans (hb4.mono hs3)
      have hs4 := hb4.size
      clear hb4 hb3 hB3 hB2
      have l11 := x11.lt
      have h11 : p10 < w3.heap.size := by omega
      generalize w3.heap.size = p11 at *
      obtain ⟨ov, hov⟩ : ∃ ov, ov = out + h + nl := ⟨_, rfl⟩
      have hov2 : 0 ≤ ov ∧ ov ≤ 16779000 := by omega
      rw [← hov] at Hps
      have Hov := Lib.hid hov
      clear hov
      by_cases hnx : k + 1 < n
      · have hkn : (k : Int) + 1 < (n : Int) := by omega
        obtain ⟨d0, d1, d2, d3, d4, d5⟩ := (HAt.out (k + 1) hnx).keep hB4 hbl
        have hnl2 : (es.getD (k + 1) default).len = nl := by have := Hnx.out; rw [if_pos hnx] at this; exact this.symm
        obtain ⟨_, _, _, _, _, _, bk⟩ := ev_bd Hok.out (k := k + 1) (by rw [← Hn.out]; exact hnx)
        rw [hnl2] at d2 bk
        clear d0 d3 d4 d5 hnl2
        generalize (es.getD (k + 1) default).kind = kind2 at d1 bk
        have hk1 : (0 : Int) ≤ (k : Int) + 1 := by omega
        have hbw : b < w4.heap.size := by have := hB4.size; omega
        by_cases hk2 : kind2 = 2
        · subst hk2
          obtain ⟨q3, f3, l3⟩ := x3.all
          go_upto_region 13 with fail
          obtain ⟨q9, f9, _⟩ := x11.all
          refine wp_region_tail (fun z : BW w4.heap.size w4 => z.w) 11 (by kernel_rfl) (by kernel_rfl) (BW.start _ _) rfl ?_
          simp only [List.take_succ_cons, List.take_zero, List.drop_succ_cons, List.drop_zero]
          repeat (go_big_quiet_step (fail))
          refine wpQuiet_nil ?_
          intro z
          have y11 := x11.keep z.below
          have y10 := x10.keep z.below
          have hb4z := hb4r.trans (z.below.mono (by omega))
          generalize z.w = wz at *
          clear q9 f9 q3 f3 l3 d1 d2 x10 x11
          obtain ⟨q9, f9, l9z⟩ := y11.all
          go_upto_region 14 with fail
          refine name_world ?_
          intro w5 hw5
          have x11b : Bx w5 p11 38 #[.string reel, .int .i64 mi, .int .i64 ov] := by rw [hw5, Hov.out]; simpa using y11.set 2 (.int .i64 (out + h + nl))
          have x10b : Bx w5 p10 48 #[.string reel, .int .i64 kind, .int .i64 len, .int .i64 inn, .int .i64 out, .int .i64 pos] := by rw [hw5]; exact y10.other _ _ (by show p10 ≠ p11; omega)
          have hb5 : Below p10 wr w5 := by rw [hw5]; exact Below.set' (by show p10 ≤ p11; omega) hb4z
          clear hw5 y10 y11 hb4z q9 f9 l9z z
          have l10 := x10b.lt
          have l11b := x11b.lt
          have Hlo := Lib.hid (show ∀ s g, (atE E s).ownBlock = some g → g < p10 from fun s g hg => by rw [Hp10.out]; exact (OwnQ.base (G.row s) g hg).2)
          have hrlo : ∀ g, u8.ownBlock = some g → g < p10 := fun g hg => by rw [Hp10.out]; exact (OwnS.base G.reels g hg).2
          have Hrlo := Lib.hid hrlo
          have B5 : Below r w2 w5 := B.trans (hb5.mono (by omega))
          replace G := G.keep (show Below wr.heap.size wr w5 by rw [← Hp10.out]; exact hb5)
          clear hb4r x3 hrlo
          have hlk := run_lookup_s G.map reel
          by_cases hnil : ofR P reel = []
          · have hV : atE E reel = .slice none 0 0 := G.isNil reel hnil
            rw [show (findS E reel).getD (.slice none 0 0) = .slice none 0 0 from hV] at hlk
            have hS := Lib.hid (not_mem_of_none Hfull.out hnil)
            have Hnil := Lib.hid hnil
            clear hnil
            obtain ⟨q10, f10, _⟩ := x10b.all
            go_upto_region 15 with fail
            go_wp2_with (at_builtin; refine str_append (B := r + 1) (p := reel) rfl (.tmp 84) (.tmp 87) rfl rfl w5.heap.size rfl (G.keep (bnew (Below.refl _ _))).reels (Bx.new _ _ _) (by omega) (by simp; omega) ?_)
            intro v' w6 own6 ap
            have Ga := G.keep (bnew' (Below.refl w5.heap.size w5) (Nat.le_refl _) (ob := .cells #[.string reel] 9))
            have G6 := Ga.reel hS.out own6 ap
            have x10c := ap.bx (x10b.keep (bnew' (Below.refl _ _) (Nat.le_refl _))) (fun e => by have := Hrlo.out _ e; omega)
            have x11c := ap.bx (x11b.keep (bnew' (Below.refl _ _) (Nat.le_refl _))) (fun e => by have := Hrlo.out _ e; omega)
            have B6 : Below r w2 w6 := ap.below (bnew' B5 (by omega)) (by omega) (by simp; omega) (fun g hg => by have := (OwnS.base Ga.reels g hg).1; omega)
            have Hin : Hid (reel ∈ S ++ [reel]) := Lib.hid (by simp)
            clear own6 ap Ga G x10b x11b q10 f10 hlk B5 B
            go_upto_region 16 with fail
            have Xg := Lib.hid (And.intro G6 (And.intro x10c x11c))
            have hlk1 : (Instr.lookup 50 (.map (some r)) (.string reel) false).run Tryd.prog w6.drew = .ok (.slice none 0 0) w6.drew := by have := run_lookup_s (G6.map.keep (Below.refl _ _).drew) reel; rw [show (findS E reel).getD (.slice none 0 0) = .slice none 0 0 from hV] at this; exact this
            have hlk2 : ∀ ob, (Instr.lookup 50 (.map (some r)) (.string reel) false).run Tryd.prog ((w6.alloc ob).drew) = .ok (.slice none 0 0) ((w6.alloc ob).drew) := fun ob => by have := run_lookup_s (G6.map.keep (((Below.refl _ _).alloc (Nat.le_refl _) ob).drew)) reel; rw [show (findS E reel).getD (.slice none 0 0) = .slice none 0 0 from hV] at this; exact this
            have e0 : w6.cell? ⟨p10, 0, none⟩ = some (.string reel) := x10c.all.1 0
            have e1 : w6.cell? ⟨p11, 0, none⟩ = some (.string reel) := x11c.all.1 0
            have e2 : w6.cell? ⟨p11, 1, none⟩ = some (.int .i64 mi) := x11c.all.1 1
            have e3 : w6.cell? ⟨p11, 2, none⟩ = some (.int .i64 ov) := x11c.all.1 2
            have HVv := Lib.hid hV
            have hB6s : r + 1 ≤ w6.heap.size := G6.map.lt
            have f6 : ∀ (u : Value) (hu : u = .slice none 0 0) (ob : Obj), OwnQ (r + 1) ((w6.alloc ob).drew) u (ofR P reel) := fun u hu ob => by have := (Xg.out.1.keep (((Below.refl _ _).alloc (Nat.le_refl _) ob).drew)).row reel; rw [HVv.out] at this; rw [hu]; exact this
            have F6 := Lib.hid f6
            clear x10c x11c hV f6 G6
            go_region_held3 (fun w' => w'.cell? ⟨p10, 0, none⟩ = some (.string reel) ∧ w'.cell? ⟨p11, 0, none⟩ = some (.string reel) ∧ w'.cell? ⟨p11, 1, none⟩ = some (.int .i64 mi) ∧ w'.cell? ⟨p11, 2, none⟩ = some (.int .i64 ov)) (go_keep) (first
              | (refine pl_step (B := r + 1) (p := ⟨reel, mi, ov⟩) rfl (.tmp 95) (.tmp 97) rfl rfl _ rfl (F6.out _ rfl _) ((Bx.new _ _ _).drewN 1) (Nat.le_trans HPl.out (by decide)) (by simp; omega) ?_; intro v2 w7 own7 ap7; obtain ⟨hup, ⟨a0, a1, a2, a3⟩, ⟨b0, b1, b2, b3⟩, G8, B8⟩ := r16_facts Xg.out.1 Xg.out.2.1 Xg.out.2.2 HVv.out Hin.out (Hlo.out reel) hszr h11 hB6s own7 ap7))
            all_goals
              have H8 := Lib.hid (And.intro G8 (B8 w2 B6))
              clear G8 B8 B6 own7 ap7 hup a0 a1 a2 a3 b0 b1 b2 b3 e0 e1 e2 e3 hlk1 hlk2
              go_wp2_with fail
              go_roundw
              case rel => exact ⟨k + 1, S ++ [reel], _, hlt, (by rw [List.length_append, List.length_singleton]; omega), by go_num, by rw [Hps.out]; exact H8.out.1, by rw [Hps.out]; exact full_new (p := ⟨reel, mi, ov⟩) Hfull.out, H8.out.2⟩
              case measure => simp [intOf] <;> omega
          · rcases (G.row reel).form with ⟨h9, _⟩ | ⟨g, cap, hV, hg, hgl, hcap, rowg⟩
            · exact absurd h9 hnil
            have hm0 : 0 < (ofR P reel).length := List.length_pos_iff.2 hnil
            have Hin := Lib.hid (mem_of_some G.mem hnil)
            obtain ⟨m, hm⟩ : ∃ m, m = (ofR P reel).length := ⟨_, rfl⟩
            rw [← hm] at hV hm0 hcap
            have hm1 : ¬ (m : Int) = 0 := by omega
            rw [show (findS E reel).getD (.slice none 0 0) = .slice (some ⟨g, 0, none⟩) m cap from hV] at hlk
            clear rowg hm hg hgl hcap hnil
            obtain ⟨q10, f10, _⟩ := x10b.all
            go_upto_region 16 with fail
            refine name_world ?_
            intro w6 hw6
            have hb6 : Below w5.heap.size w5 w6 := by rw [hw6]; first | exact Below.refl _ _ | exact (Below.refl _ _).drew | exact below_drewN (Below.refl _ _) _
            have G6 := G.keep hb6
            have x10c := x10b.keep hb6
            have x11c := x11b.keep hb6
            have B6 : Below r w2 w6 := B5.trans (hb6.mono (by omega))
            clear hw6 hb6 G x10b x11b q10 f10 hlk B5 B
            have Xg := Lib.hid (And.intro G6 (And.intro x10c x11c))
            have hlk1 : (Instr.lookup 50 (.map (some r)) (.string reel) false).run Tryd.prog w6.drew = .ok (.slice (some ⟨g, 0, none⟩) m cap) w6.drew := by have := run_lookup_s (G6.map.keep (Below.refl _ _).drew) reel; rw [show (findS E reel).getD (.slice none 0 0) = .slice (some ⟨g, 0, none⟩) m cap from hV] at this; exact this
            have hlk2 : ∀ ob, (Instr.lookup 50 (.map (some r)) (.string reel) false).run Tryd.prog ((w6.alloc ob).drew) = .ok (.slice (some ⟨g, 0, none⟩) m cap) ((w6.alloc ob).drew) := fun ob => by have := run_lookup_s (G6.map.keep (((Below.refl _ _).alloc (Nat.le_refl _) ob).drew)) reel; rw [show (findS E reel).getD (.slice none 0 0) = .slice (some ⟨g, 0, none⟩) m cap from hV] at this; exact this
            have e0 : w6.cell? ⟨p10, 0, none⟩ = some (.string reel) := x10c.all.1 0
            have e1 : w6.cell? ⟨p11, 0, none⟩ = some (.string reel) := x11c.all.1 0
            have e2 : w6.cell? ⟨p11, 1, none⟩ = some (.int .i64 mi) := x11c.all.1 1
            have e3 : w6.cell? ⟨p11, 2, none⟩ = some (.int .i64 ov) := x11c.all.1 2
            have HVv := Lib.hid hV
            have hB6s : r + 1 ≤ w6.heap.size := G6.map.lt
            have f6 : ∀ (u : Value) (hu : u = .slice (some ⟨g, 0, none⟩) m cap) (ob : Obj), OwnQ (r + 1) ((w6.alloc ob).drew) u (ofR P reel) := fun u hu ob => by have := (Xg.out.1.keep (((Below.refl _ _).alloc (Nat.le_refl _) ob).drew)).row reel; rw [HVv.out] at this; rw [hu]; exact this
            have F6 := Lib.hid f6
            clear x10c x11c hV f6 G6
            go_region_held3 (fun w' => w'.cell? ⟨p10, 0, none⟩ = some (.string reel) ∧ w'.cell? ⟨p11, 0, none⟩ = some (.string reel) ∧ w'.cell? ⟨p11, 1, none⟩ = some (.int .i64 mi) ∧ w'.cell? ⟨p11, 2, none⟩ = some (.int .i64 ov)) (go_keep) (first
              | (refine pl_step (B := r + 1) (p := ⟨reel, mi, ov⟩) rfl (.tmp 95) (.tmp 97) rfl rfl _ rfl (F6.out _ rfl _) ((Bx.new _ _ _).drewN 1) (Nat.le_trans HPl.out (by decide)) (by simp; omega) ?_; intro v2 w7 own7 ap7; obtain ⟨hup, ⟨a0, a1, a2, a3⟩, ⟨b0, b1, b2, b3⟩, G8, B8⟩ := r16_facts Xg.out.1 Xg.out.2.1 Xg.out.2.2 HVv.out Hin.out (Hlo.out reel) hszr h11 hB6s own7 ap7))
            all_goals
              have H8 := Lib.hid (And.intro G8 (B8 w2 B6))
              clear G8 B8 B6 own7 ap7 hup a0 a1 a2 a3 b0 b1 b2 b3 e0 e1 e2 e3 hlk1 hlk2
              go_wp2_with fail
              go_roundw
              case rel => exact ⟨k + 1, S, _, hlt, (by omega), by go_num, by rw [Hps.out]; exact H8.out.1, by rw [Hps.out]; exact full_old (p := ⟨reel, mi, ov⟩) Hfull.out, H8.out.2⟩
              case measure => simp [intOf] <;> omega
        · have hnl0 : nl = 0 := by rcases bk with bk | bk <;> omega
          rw [show out + h = ov by have := Hov.out; omega] at x11
          obtain ⟨q3, f3, l3⟩ := x3.all
          go_upto_region 14 with fail
          refine name_world ?_
          intro w5 hw5
          have hb5w : Below w4.heap.size w4 w5 := by rw [hw5]; first | exact Below.refl _ _ | exact (Below.refl _ _).drew | exact below_drewN (Below.refl _ _) _
          have x11b := x11.keep hb5w
          have x10b := x10.keep hb5w
          have hb5 := hb4r.trans (hb5w.mono (by omega))
          clear hw5 hb5w q3 f3 l3 x10 x11 d1 d2
          have l10 := x10b.lt
          have l11b := x11b.lt
          have Hlo := Lib.hid (show ∀ s g, (atE E s).ownBlock = some g → g < p10 from fun s g hg => by rw [Hp10.out]; exact (OwnQ.base (G.row s) g hg).2)
          have hrlo : ∀ g, u8.ownBlock = some g → g < p10 := fun g hg => by rw [Hp10.out]; exact (OwnS.base G.reels g hg).2
          have Hrlo := Lib.hid hrlo
          have B5 : Below r w2 w5 := B.trans (hb5.mono (by omega))
          replace G := G.keep (show Below wr.heap.size wr w5 by rw [← Hp10.out]; exact hb5)
          clear hb4r x3 hrlo
          have hlk := run_lookup_s G.map reel
          by_cases hnil : ofR P reel = []
          · have hV : atE E reel = .slice none 0 0 := G.isNil reel hnil
            rw [show (findS E reel).getD (.slice none 0 0) = .slice none 0 0 from hV] at hlk
            have hS := Lib.hid (not_mem_of_none Hfull.out hnil)
            have Hnil := Lib.hid hnil
            clear hnil
            obtain ⟨q10, f10, _⟩ := x10b.all
            go_upto_region 15 with fail
            go_wp2_with (at_builtin; refine str_append (B := r + 1) (p := reel) rfl (.tmp 84) (.tmp 87) rfl rfl w5.heap.size rfl (G.keep (bnew (Below.refl _ _))).reels (Bx.new _ _ _) (by omega) (by simp; omega) ?_)
            intro v' w6 own6 ap
            have Ga := G.keep (bnew' (Below.refl w5.heap.size w5) (Nat.le_refl _) (ob := .cells #[.string reel] 9))
            have G6 := Ga.reel hS.out own6 ap
            have x10c := ap.bx (x10b.keep (bnew' (Below.refl _ _) (Nat.le_refl _))) (fun e => by have := Hrlo.out _ e; omega)
            have x11c := ap.bx (x11b.keep (bnew' (Below.refl _ _) (Nat.le_refl _))) (fun e => by have := Hrlo.out _ e; omega)
            have B6 : Below r w2 w6 := ap.below (bnew' B5 (by omega)) (by omega) (by simp; omega) (fun g hg => by have := (OwnS.base Ga.reels g hg).1; omega)
            have Hin : Hid (reel ∈ S ++ [reel]) := Lib.hid (by simp)
            clear own6 ap Ga G x10b x11b q10 f10 hlk B5 B
            go_upto_region 16 with fail
            have Xg := Lib.hid (And.intro G6 (And.intro x10c x11c))
            have hlk1 : (Instr.lookup 50 (.map (some r)) (.string reel) false).run Tryd.prog w6.drew = .ok (.slice none 0 0) w6.drew := by have := run_lookup_s (G6.map.keep (Below.refl _ _).drew) reel; rw [show (findS E reel).getD (.slice none 0 0) = .slice none 0 0 from hV] at this; exact this
            have hlk2 : ∀ ob, (Instr.lookup 50 (.map (some r)) (.string reel) false).run Tryd.prog ((w6.alloc ob).drew) = .ok (.slice none 0 0) ((w6.alloc ob).drew) := fun ob => by have := run_lookup_s (G6.map.keep (((Below.refl _ _).alloc (Nat.le_refl _) ob).drew)) reel; rw [show (findS E reel).getD (.slice none 0 0) = .slice none 0 0 from hV] at this; exact this
            have e0 : w6.cell? ⟨p10, 0, none⟩ = some (.string reel) := x10c.all.1 0
            have e1 : w6.cell? ⟨p11, 0, none⟩ = some (.string reel) := x11c.all.1 0
            have e2 : w6.cell? ⟨p11, 1, none⟩ = some (.int .i64 mi) := x11c.all.1 1
            have e3 : w6.cell? ⟨p11, 2, none⟩ = some (.int .i64 ov) := x11c.all.1 2
            have HVv := Lib.hid hV
            have hB6s : r + 1 ≤ w6.heap.size := G6.map.lt
            have f6 : ∀ (u : Value) (hu : u = .slice none 0 0) (ob : Obj), OwnQ (r + 1) ((w6.alloc ob).drew) u (ofR P reel) := fun u hu ob => by have := (Xg.out.1.keep (((Below.refl _ _).alloc (Nat.le_refl _) ob).drew)).row reel; rw [HVv.out] at this; rw [hu]; exact this
            have F6 := Lib.hid f6
            clear x10c x11c hV f6 G6
            go_region_held3 (fun w' => w'.cell? ⟨p10, 0, none⟩ = some (.string reel) ∧ w'.cell? ⟨p11, 0, none⟩ = some (.string reel) ∧ w'.cell? ⟨p11, 1, none⟩ = some (.int .i64 mi) ∧ w'.cell? ⟨p11, 2, none⟩ = some (.int .i64 ov)) (go_keep) (first
              | (refine pl_step (B := r + 1) (p := ⟨reel, mi, ov⟩) rfl (.tmp 95) (.tmp 97) rfl rfl _ rfl (F6.out _ rfl _) ((Bx.new _ _ _).drewN 1) (Nat.le_trans HPl.out (by decide)) (by simp; omega) ?_; intro v2 w7 own7 ap7; obtain ⟨hup, ⟨a0, a1, a2, a3⟩, ⟨b0, b1, b2, b3⟩, G8, B8⟩ := r16_facts Xg.out.1 Xg.out.2.1 Xg.out.2.2 HVv.out Hin.out (Hlo.out reel) hszr h11 hB6s own7 ap7))
            all_goals
              have H8 := Lib.hid (And.intro G8 (B8 w2 B6))
              clear G8 B8 B6 own7 ap7 hup a0 a1 a2 a3 b0 b1 b2 b3 e0 e1 e2 e3 hlk1 hlk2
              go_wp2_with fail
              go_roundw
              case rel => exact ⟨k + 1, S ++ [reel], _, hlt, (by rw [List.length_append, List.length_singleton]; omega), by go_num, by rw [Hps.out]; exact H8.out.1, by rw [Hps.out]; exact full_new (p := ⟨reel, mi, ov⟩) Hfull.out, H8.out.2⟩
              case measure => simp [intOf] <;> omega
          · rcases (G.row reel).form with ⟨h9, _⟩ | ⟨g, cap, hV, hg, hgl, hcap, rowg⟩
            · exact absurd h9 hnil
            have hm0 : 0 < (ofR P reel).length := List.length_pos_iff.2 hnil
            have Hin := Lib.hid (mem_of_some G.mem hnil)
            obtain ⟨m, hm⟩ : ∃ m, m = (ofR P reel).length := ⟨_, rfl⟩
            rw [← hm] at hV hm0 hcap
            have hm1 : ¬ (m : Int) = 0 := by omega
            rw [show (findS E reel).getD (.slice none 0 0) = .slice (some ⟨g, 0, none⟩) m cap from hV] at hlk
            clear rowg hm hg hgl hcap hnil
            obtain ⟨q10, f10, _⟩ := x10b.all
            go_upto_region 16 with fail
            refine name_world ?_
            intro w6 hw6
            have hb6 : Below w5.heap.size w5 w6 := by rw [hw6]; first | exact Below.refl _ _ | exact (Below.refl _ _).drew | exact below_drewN (Below.refl _ _) _
            have G6 := G.keep hb6
            have x10c := x10b.keep hb6
            have x11c := x11b.keep hb6
            have B6 : Below r w2 w6 := B5.trans (hb6.mono (by omega))
            clear hw6 hb6 G x10b x11b q10 f10 hlk B5 B
            have Xg := Lib.hid (And.intro G6 (And.intro x10c x11c))
            have hlk1 : (Instr.lookup 50 (.map (some r)) (.string reel) false).run Tryd.prog w6.drew = .ok (.slice (some ⟨g, 0, none⟩) m cap) w6.drew := by have := run_lookup_s (G6.map.keep (Below.refl _ _).drew) reel; rw [show (findS E reel).getD (.slice none 0 0) = .slice (some ⟨g, 0, none⟩) m cap from hV] at this; exact this
            have hlk2 : ∀ ob, (Instr.lookup 50 (.map (some r)) (.string reel) false).run Tryd.prog ((w6.alloc ob).drew) = .ok (.slice (some ⟨g, 0, none⟩) m cap) ((w6.alloc ob).drew) := fun ob => by have := run_lookup_s (G6.map.keep (((Below.refl _ _).alloc (Nat.le_refl _) ob).drew)) reel; rw [show (findS E reel).getD (.slice none 0 0) = .slice (some ⟨g, 0, none⟩) m cap from hV] at this; exact this
            have e0 : w6.cell? ⟨p10, 0, none⟩ = some (.string reel) := x10c.all.1 0
            have e1 : w6.cell? ⟨p11, 0, none⟩ = some (.string reel) := x11c.all.1 0
            have e2 : w6.cell? ⟨p11, 1, none⟩ = some (.int .i64 mi) := x11c.all.1 1
            have e3 : w6.cell? ⟨p11, 2, none⟩ = some (.int .i64 ov) := x11c.all.1 2
            have HVv := Lib.hid hV
            have hB6s : r + 1 ≤ w6.heap.size := G6.map.lt
            have f6 : ∀ (u : Value) (hu : u = .slice (some ⟨g, 0, none⟩) m cap) (ob : Obj), OwnQ (r + 1) ((w6.alloc ob).drew) u (ofR P reel) := fun u hu ob => by have := (Xg.out.1.keep (((Below.refl _ _).alloc (Nat.le_refl _) ob).drew)).row reel; rw [HVv.out] at this; rw [hu]; exact this
            have F6 := Lib.hid f6
            clear x10c x11c hV f6 G6
            go_region_held3 (fun w' => w'.cell? ⟨p10, 0, none⟩ = some (.string reel) ∧ w'.cell? ⟨p11, 0, none⟩ = some (.string reel) ∧ w'.cell? ⟨p11, 1, none⟩ = some (.int .i64 mi) ∧ w'.cell? ⟨p11, 2, none⟩ = some (.int .i64 ov)) (go_keep) (first
              | (refine pl_step (B := r + 1) (p := ⟨reel, mi, ov⟩) rfl (.tmp 95) (.tmp 97) rfl rfl _ rfl (F6.out _ rfl _) ((Bx.new _ _ _).drewN 1) (Nat.le_trans HPl.out (by decide)) (by simp; omega) ?_; intro v2 w7 own7 ap7; obtain ⟨hup, ⟨a0, a1, a2, a3⟩, ⟨b0, b1, b2, b3⟩, G8, B8⟩ := r16_facts Xg.out.1 Xg.out.2.1 Xg.out.2.2 HVv.out Hin.out (Hlo.out reel) hszr h11 hB6s own7 ap7))
            all_goals
              have H8 := Lib.hid (And.intro G8 (B8 w2 B6))
              clear G8 B8 B6 own7 ap7 hup a0 a1 a2 a3 b0 b1 b2 b3 e0 e1 e2 e3 hlk1 hlk2
              go_wp2_with fail
              go_roundw
              case rel => exact ⟨k + 1, S, _, hlt, (by omega), by go_num, by rw [Hps.out]; exact H8.out.1, by rw [Hps.out]; exact full_old (p := ⟨reel, mi, ov⟩) Hfull.out, H8.out.2⟩
              case measure => simp [intOf] <;> omega
      · have hkn : ¬ (k : Int) + 1 < (n : Int) := by omega
        have hnl2 : nl = 0 := by have := Hnx.out; rw [if_neg hnx] at this; exact this
        rw [show out + h = ov by have := Hov.out; omega] at x11
        obtain ⟨q3, f3, l3⟩ := x3.all
        go_upto_region 14 with fail
        refine name_world ?_
        intro w5 hw5
        have hb5w : Below w4.heap.size w4 w5 := by rw [hw5]; first | exact Below.refl _ _ | exact (Below.refl _ _).drew | exact below_drewN (Below.refl _ _) _
        have x11b := x11.keep hb5w
        have x10b := x10.keep hb5w
        have hb5 := hb4r.trans (hb5w.mono (by omega))
        clear hw5 hb5w q3 f3 l3 x10 x11
        have l10 := x10b.lt
        have l11b := x11b.lt
        have Hlo := Lib.hid (show ∀ s g, (atE E s).ownBlock = some g → g < p10 from fun s g hg => by rw [Hp10.out]; exact (OwnQ.base (G.row s) g hg).2)
        have hrlo : ∀ g, u8.ownBlock = some g → g < p10 := fun g hg => by rw [Hp10.out]; exact (OwnS.base G.reels g hg).2
        have Hrlo := Lib.hid hrlo
        have B5 : Below r w2 w5 := B.trans (hb5.mono (by omega))
        replace G := G.keep (show Below wr.heap.size wr w5 by rw [← Hp10.out]; exact hb5)
        clear hb4r x3 hrlo
        have hlk := run_lookup_s G.map reel
        by_cases hnil : ofR P reel = []
        · have hV : atE E reel = .slice none 0 0 := G.isNil reel hnil
          rw [show (findS E reel).getD (.slice none 0 0) = .slice none 0 0 from hV] at hlk
          have hS := Lib.hid (not_mem_of_none Hfull.out hnil)
          have Hnil := Lib.hid hnil
          clear hnil
          obtain ⟨q10, f10, _⟩ := x10b.all
          go_upto_region 15 with fail
          go_wp2_with (at_builtin; refine str_append (B := r + 1) (p := reel) rfl (.tmp 84) (.tmp 87) rfl rfl w5.heap.size rfl (G.keep (bnew (Below.refl _ _))).reels (Bx.new _ _ _) (by omega) (by simp; omega) ?_)
          intro v' w6 own6 ap
          have Ga := G.keep (bnew' (Below.refl w5.heap.size w5) (Nat.le_refl _) (ob := .cells #[.string reel] 9))
          have G6 := Ga.reel hS.out own6 ap
          have x10c := ap.bx (x10b.keep (bnew' (Below.refl _ _) (Nat.le_refl _))) (fun e => by have := Hrlo.out _ e; omega)
          have x11c := ap.bx (x11b.keep (bnew' (Below.refl _ _) (Nat.le_refl _))) (fun e => by have := Hrlo.out _ e; omega)
          have B6 : Below r w2 w6 := ap.below (bnew' B5 (by omega)) (by omega) (by simp; omega) (fun g hg => by have := (OwnS.base Ga.reels g hg).1; omega)
          have Hin : Hid (reel ∈ S ++ [reel]) := Lib.hid (by simp)
          clear own6 ap Ga G x10b x11b q10 f10 hlk B5 B
          go_upto_region 16 with fail
          have Xg := Lib.hid (And.intro G6 (And.intro x10c x11c))
          have hlk1 : (Instr.lookup 50 (.map (some r)) (.string reel) false).run Tryd.prog w6.drew = .ok (.slice none 0 0) w6.drew := by have := run_lookup_s (G6.map.keep (Below.refl _ _).drew) reel; rw [show (findS E reel).getD (.slice none 0 0) = .slice none 0 0 from hV] at this; exact this
          have hlk2 : ∀ ob, (Instr.lookup 50 (.map (some r)) (.string reel) false).run Tryd.prog ((w6.alloc ob).drew) = .ok (.slice none 0 0) ((w6.alloc ob).drew) := fun ob => by have := run_lookup_s (G6.map.keep (((Below.refl _ _).alloc (Nat.le_refl _) ob).drew)) reel; rw [show (findS E reel).getD (.slice none 0 0) = .slice none 0 0 from hV] at this; exact this
          have e0 : w6.cell? ⟨p10, 0, none⟩ = some (.string reel) := x10c.all.1 0
          have e1 : w6.cell? ⟨p11, 0, none⟩ = some (.string reel) := x11c.all.1 0
          have e2 : w6.cell? ⟨p11, 1, none⟩ = some (.int .i64 mi) := x11c.all.1 1
          have e3 : w6.cell? ⟨p11, 2, none⟩ = some (.int .i64 ov) := x11c.all.1 2
          have HVv := Lib.hid hV
          have hB6s : r + 1 ≤ w6.heap.size := G6.map.lt
          have f6 : ∀ (u : Value) (hu : u = .slice none 0 0) (ob : Obj), OwnQ (r + 1) ((w6.alloc ob).drew) u (ofR P reel) := fun u hu ob => by have := (Xg.out.1.keep (((Below.refl _ _).alloc (Nat.le_refl _) ob).drew)).row reel; rw [HVv.out] at this; rw [hu]; exact this
          have F6 := Lib.hid f6
          clear x10c x11c hV f6 G6
          go_region_held3 (fun w' => w'.cell? ⟨p10, 0, none⟩ = some (.string reel) ∧ w'.cell? ⟨p11, 0, none⟩ = some (.string reel) ∧ w'.cell? ⟨p11, 1, none⟩ = some (.int .i64 mi) ∧ w'.cell? ⟨p11, 2, none⟩ = some (.int .i64 ov)) (go_keep) (first
            | (refine pl_step (B := r + 1) (p := ⟨reel, mi, ov⟩) rfl (.tmp 95) (.tmp 97) rfl rfl _ rfl (F6.out _ rfl _) ((Bx.new _ _ _).drewN 1) (Nat.le_trans HPl.out (by decide)) (by simp; omega) ?_; intro v2 w7 own7 ap7; obtain ⟨hup, ⟨a0, a1, a2, a3⟩, ⟨b0, b1, b2, b3⟩, G8, B8⟩ := r16_facts Xg.out.1 Xg.out.2.1 Xg.out.2.2 HVv.out Hin.out (Hlo.out reel) hszr h11 hB6s own7 ap7))
          all_goals
            have H8 := Lib.hid (And.intro G8 (B8 w2 B6))
            clear G8 B8 B6 own7 ap7 hup a0 a1 a2 a3 b0 b1 b2 b3 e0 e1 e2 e3 hlk1 hlk2
            go_wp2_with fail
            go_roundw
            case rel => exact ⟨k + 1, S ++ [reel], _, hlt, (by rw [List.length_append, List.length_singleton]; omega), by go_num, by rw [Hps.out]; exact H8.out.1, by rw [Hps.out]; exact full_new (p := ⟨reel, mi, ov⟩) Hfull.out, H8.out.2⟩
            case measure => simp [intOf] <;> omega
        · rcases (G.row reel).form with ⟨h9, _⟩ | ⟨g, cap, hV, hg, hgl, hcap, rowg⟩
          · exact absurd h9 hnil
          have hm0 : 0 < (ofR P reel).length := List.length_pos_iff.2 hnil
          have Hin := Lib.hid (mem_of_some G.mem hnil)
          obtain ⟨m, hm⟩ : ∃ m, m = (ofR P reel).length := ⟨_, rfl⟩
          rw [← hm] at hV hm0 hcap
          have hm1 : ¬ (m : Int) = 0 := by omega
          rw [show (findS E reel).getD (.slice none 0 0) = .slice (some ⟨g, 0, none⟩) m cap from hV] at hlk
          clear rowg hm hg hgl hcap hnil
          obtain ⟨q10, f10, _⟩ := x10b.all
          go_upto_region 16 with fail
          refine name_world ?_
          intro w6 hw6
          have hb6 : Below w5.heap.size w5 w6 := by rw [hw6]; first | exact Below.refl _ _ | exact (Below.refl _ _).drew | exact below_drewN (Below.refl _ _) _
          have G6 := G.keep hb6
          have x10c := x10b.keep hb6
          have x11c := x11b.keep hb6
          have B6 : Below r w2 w6 := B5.trans (hb6.mono (by omega))
          clear hw6 hb6 G x10b x11b q10 f10 hlk B5 B
          have Xg := Lib.hid (And.intro G6 (And.intro x10c x11c))
          have hlk1 : (Instr.lookup 50 (.map (some r)) (.string reel) false).run Tryd.prog w6.drew = .ok (.slice (some ⟨g, 0, none⟩) m cap) w6.drew := by have := run_lookup_s (G6.map.keep (Below.refl _ _).drew) reel; rw [show (findS E reel).getD (.slice none 0 0) = .slice (some ⟨g, 0, none⟩) m cap from hV] at this; exact this
          have hlk2 : ∀ ob, (Instr.lookup 50 (.map (some r)) (.string reel) false).run Tryd.prog ((w6.alloc ob).drew) = .ok (.slice (some ⟨g, 0, none⟩) m cap) ((w6.alloc ob).drew) := fun ob => by have := run_lookup_s (G6.map.keep (((Below.refl _ _).alloc (Nat.le_refl _) ob).drew)) reel; rw [show (findS E reel).getD (.slice none 0 0) = .slice (some ⟨g, 0, none⟩) m cap from hV] at this; exact this
          have e0 : w6.cell? ⟨p10, 0, none⟩ = some (.string reel) := x10c.all.1 0
          have e1 : w6.cell? ⟨p11, 0, none⟩ = some (.string reel) := x11c.all.1 0
          have e2 : w6.cell? ⟨p11, 1, none⟩ = some (.int .i64 mi) := x11c.all.1 1
          have e3 : w6.cell? ⟨p11, 2, none⟩ = some (.int .i64 ov) := x11c.all.1 2
          have HVv := Lib.hid hV
          have hB6s : r + 1 ≤ w6.heap.size := G6.map.lt
          have f6 : ∀ (u : Value) (hu : u = .slice (some ⟨g, 0, none⟩) m cap) (ob : Obj), OwnQ (r + 1) ((w6.alloc ob).drew) u (ofR P reel) := fun u hu ob => by have := (Xg.out.1.keep (((Below.refl _ _).alloc (Nat.le_refl _) ob).drew)).row reel; rw [HVv.out] at this; rw [hu]; exact this
          have F6 := Lib.hid f6
          clear x10c x11c hV f6 G6
          go_region_held3 (fun w' => w'.cell? ⟨p10, 0, none⟩ = some (.string reel) ∧ w'.cell? ⟨p11, 0, none⟩ = some (.string reel) ∧ w'.cell? ⟨p11, 1, none⟩ = some (.int .i64 mi) ∧ w'.cell? ⟨p11, 2, none⟩ = some (.int .i64 ov)) (go_keep) (first
            | (refine pl_step (B := r + 1) (p := ⟨reel, mi, ov⟩) rfl (.tmp 95) (.tmp 97) rfl rfl _ rfl (F6.out _ rfl _) ((Bx.new _ _ _).drewN 1) (Nat.le_trans HPl.out (by decide)) (by simp; omega) ?_; intro v2 w7 own7 ap7; obtain ⟨hup, ⟨a0, a1, a2, a3⟩, ⟨b0, b1, b2, b3⟩, G8, B8⟩ := r16_facts Xg.out.1 Xg.out.2.1 Xg.out.2.2 HVv.out Hin.out (Hlo.out reel) hszr h11 hB6s own7 ap7))
          all_goals
            have H8 := Lib.hid (And.intro G8 (B8 w2 B6))
            clear G8 B8 B6 own7 ap7 hup a0 a1 a2 a3 b0 b1 b2 b3 e0 e1 e2 e3 hlk1 hlk2
            go_wp2_with fail
            go_roundw
            case rel => exact ⟨k + 1, S, _, hlt, (by omega), by go_num, by rw [Hps.out]; exact H8.out.1, by rw [Hps.out]; exact full_old (p := ⟨reel, mi, ov⟩) Hfull.out, H8.out.2⟩
            case measure => simp [intOf] <;> omega
    · obtain rfl : k = n := by omega
      rw [show (pullsL es h).take k = pullsL es h from List.take_of_length_le (by rw [Hpl.out]; exact Nat.le_refl _)] at G hfull
      clear x3 x2 xm hform hsz
      have HG := Lib.hid G
      have hk500 : (pullsL es h).length ≤ 500 := by rw [Hpl.out]; exact hlen
      rcases G.reels.form with ⟨hnil, rfl⟩ | ⟨g, cap, rfl, hg, hgl, hcap, _⟩
      · have hP0 : pullsL es h = [] := by
          apply List.eq_nil_iff_forall_not_mem.2
          intro p hp
          have := G.mem p hp
          rw [hnil] at this
          cases this
        have HP0 := Lib.hid hP0
        clear hP0 G hfull
        go_wp2_with fail
        refine (sort_nil _).mono ?_
        rintro e w3 ⟨rfl, rfl⟩
        go_wp2_with fail
        go_loopw [12, 104] (fun sv iv wr => sv = .slice none 0 0 ∧ iv = .int .i64 0 ∧ wr = w3) (fun _ _ _ => 0)
        case atStart => exact ⟨rfl, rfl, by trivial⟩
        case round =>
          obtain ⟨rfl, rfl, rfl⟩ := hrel
          go_wp2_with fail
          go_ret2
          refine ⟨_, [], rfl, ⟨[], List.Pairwise.nil, ?_, (fun _ h => by cases h), rfl⟩, World.ownsRow_nil _ _ _ _, B1.trans (B.mono (by omega))⟩
          rw [HP0.out]; exact St.Stb.refl _
      · have Hnd := Lib.hid (srtS_lt G.nd)
        obtain ⟨m, hm⟩ : ∃ m, m = S.length := ⟨_, rfl⟩
        have Hm := Lib.hid hm
        have Hfull := Lib.hid hfull
        have hsrt := sort_reels (n := S.length) G.reels (by omega)
        rw [← hm] at hsrt hcap hSl ⊢
        clear hm hfull G
        go_wp2_with fail
        refine hsrt.mono ?_
        rintro e w3 ⟨rfl, ownT, oth⟩
        have B3 : Below r w2 w3 := B.trans (oth.below (by omega) (by have := HG.out.map.lt; omega))
        have hrow3 : ∀ s, OwnQ (r + 1) w3 (atE E s) (ofR (pullsL es h) s) := fun s => own_keepg (HG.out.row s) fun g' hg' hlt => oth.block g' hlt (by rintro rfl; exact HG.out.sepR s g' hg' rfl)
        have hmap3 := HG.out.map.oth oth (by omega)
        have hlo3 : ∀ s g', (atE E s).ownBlock = some g' → g' < w3.heap.size := fun s g' h' => (OwnQ.base (hrow3 s) g' h').2
        have hgl3 : g < w3.heap.size := Nat.lt_of_lt_of_le hgl oth.size
        have hr3 := hmap3.lt
        obtain ⟨T, hT⟩ : ∃ T, T = srtS S := ⟨_, rfl⟩
        have hTl : T.length = m := by rw [hT, srtS_len]; exact Hm.out.symm
        have hTm : ∀ s, s ∈ T ↔ s ∈ S := fun s => by rw [hT]; exact (srtS_perm S).mem_iff
        rw [← hT] at ownT Hnd
        have L0 : Lp w3.heap.size r (.slice (some ⟨g, 0, none⟩) m cap) E (pullsL es h) T 0 [] (.slice none 0 0) w3 := ⟨Grp.nil _, (fun _ h => by cases h), World.ownsRow_nil _ _ _ _, hmap3, ownT, (fun s _ => hrow3 s), Nat.le_refl _⟩
        have HL := Lib.hid L0
        have HS := Lib.hid (And.intro hTl (And.intro hTm hlo3))
        clear hT hTl hTm hlo3 hrow3 hmap3 ownT oth L0 hsrt
        go_wp2_with fail
        generalize w3.heap.size = B2 at *
        go_loopw [12, 104] (fun sv iv wr => ∃ (j : Nat) (D : List Pl), j ≤ m ∧ iv = .int .i64 (j : Int) ∧ Lp B2 r (.slice (some ⟨g, 0, none⟩) m cap) E (pullsL es h) T j D sv wr ∧ Below r w2 wr) (fun _ iv _ => m - (intOf iv).toNat)
        case atStart => exact ⟨0, [], Nat.zero_le _, rfl, HL.out, B3⟩
        case round =>
          obtain ⟨j, D, hj, rfl, L, Bw⟩ := hrel
          by_cases hlt : j < m
          · have hji : (j : Int) < (m : Int) := by omega
            have hjT : j < T.length := by rw [HS.out.1]; exact hlt
            have hsT : T.getD j default ∈ T := by rw [show T.getD j default = T[j] by simp [List.getD_eq_getElem?_getD, hjT]]; exact List.getElem_mem hjT
            have hst : T.getD j default ∉ T.take j := fun h9 => by have := take_lt Hnd.out hjT _ h9; rw [cbR_refl] at this; omega
            rcases L.reels.form with ⟨h9, _⟩ | ⟨g9, cap9, h9, _, hgl9, _, hcell⟩
            · rw [h9] at hjT; cases hjT
            have h8 : g = g9 := by have h7 := congrArg Value.ownBlock h9; simpa [Value.ownBlock] using h7
            clear h9
            subst h8
            have cj := hcell j hjT
            have hne0 : ofR (pullsL es h) (T.getD j default) ≠ [] := Hfull.out _ ((HS.out.2.1 _).1 hsT)
            have hrs := L.rows _ hst
            have hD500 : D.length ≤ 500 := Nat.le_trans L.grp.dlen hk500
            obtain ⟨s, hs⟩ : ∃ s, s = T.getD j default := ⟨_, rfl⟩
            rw [← hs] at cj hne0 hrs
            rcases hrs.form with ⟨h9, _⟩ | ⟨g2, cap2, hV, hg2, hgl2, hcap2, row⟩
            · exact absurd h9 hne0
            have hg2o := HS.out.2.2 s g2 (by rw [hV]; rfl)
            have hgg : g ≠ g2 := fun e => HG.out.sepR s g2 (by rw [hV]; rfl) (by rw [e]; rfl)
            have hm2 : (ofR (pullsL es h) s).length ≤ 500 := Nat.le_trans (ofR_len _ _) hk500
            have hvs : St.VL Vp (ofR (pullsL es h) s) := fun x hx => HV.out x (List.mem_filter.1 hx).1
            have hm20 : 0 < (ofR (pullsL es h) s).length := List.length_pos_iff.2 hne0
            have hsrt := sq_SortStable g2 (ofR (pullsL es h) s).length cap2 _ cP Vp cmpQP cP_ord (by omega) (ofR (pullsL es h) s) wr row hvs
            obtain ⟨m2, hm2e⟩ : ∃ m2, m2 = (ofR (pullsL es h) s).length := ⟨_, rfl⟩
            rw [← hm2e] at hV hcap2 hm2 hm20 hsrt
            have hlk := run_lookup_s L.map s
            rw [show (findS E s).getD (.slice none 0 0) = .slice (some ⟨g2, 0, none⟩) m2 cap2 from hV] at hlk
            have HL2 := Lib.hid L
            have Hs := Lib.hid (And.intro hs hV)
            have HC := Lib.hid hcell
            have Hrow := Lib.hid hm2e
            clear hs hV hcell L row hvs hrs hm2e hsT hst hne0 hcap2
            go_wp2_with fail
            refine hsrt.mono ?_
            rintro e w4 ⟨rfl, Z, rowZ, sZ, tZ, vZ, oth⟩
            obtain ⟨own4, map4, reels4, rows4, size4⟩ := HL2.out.sorted Hs.out.2 ⟨hg2o, by omega, fun e => hgg (by simpa [Value.ownBlock] using e)⟩ HG.out.sep oth
            have B4 : Below r w2 w4 := Bw.trans (oth.below (by omega) (by have := HL2.out.map.lt; omega))
            have HZ := Lib.hid (And.intro sZ (And.intro tZ (And.intro vZ (And.intro map4 (And.intro reels4 rows4)))))
            have HrZ := Lib.hid (stb_reel HV.out tZ vZ)
            have hlZ := rowZ.len
            have hDZ := Lib.hid (show D.length + Z.length ≤ 1000 by omega)
            clear sZ tZ vZ oth map4 reels4 rows4 hsrt hlk cj
            go_wp2_with fail
            go_loopw [12, 115] (fun sv iv wi => ∃ i : Nat, i ≤ m2 ∧ iv = .int .i64 (i : Int) ∧ OwnQ B2 wi sv (mList (D ++ Z.take i)) ∧ Below B2 w4 wi) (fun _ iv _ => m2 - (intOf iv).toNat)
            case atStart => exact ⟨0, Nat.zero_le _, rfl, by rw [List.take_zero, List.append_nil]; exact own4, Below.refl _ _⟩
            case round =>
              obtain ⟨i, hi, rfl, own, Bi⟩ := hrel
              by_cases hli : i < m2
              · have rowi := rowZ.below Bi hg2o
                obtain ⟨c0, c1, c2⟩ := rowi.cell i hli
                have hms := mList_take D Z (i := i) (by omega)
                have hml : (mList (D ++ Z.take i)).length ≤ 1000 := by
                  have := mList_len (D ++ Z.take i)
                  rw [List.length_append, List.length_take] at this
                  have := hDZ.out
                  omega
                have hrp : (Z.getD i default).reel = s := HrZ.out _ (by rw [show Z.getD i default = Z[i]'(by omega) by simp [List.getD_eq_getElem?_getD, show i < Z.length by omega]]; exact List.getElem_mem _)
                have hnew : i = 0 → mStep (mList (D ++ Z.take i)) (Z.getD i default) = mList (D ++ Z.take i) ++ [Z.getD i default] := by
                  rintro rfl
                  rw [List.take_zero, List.append_nil]
                  refine mStep_new fun q hq e => ?_
                  have h8 := HL2.out.grp.mem q hq
                  have h7 := take_lt Hnd.out hjT _ h8
                  rw [e, hrp, ← Hs.out.1, cbR_refl] at h7
                  omega
                have hend : 0 < i → ∃ O q, mList (D ++ Z.take i) = O ++ [q] ∧ q.reel = s := by
                  intro h8
                  have e8 : Z.take i = Z.take (i - 1) ++ [Z.getD (i - 1) default] := by
                    rw [show i = (i - 1) + 1 by omega, List.take_succ_eq_append_getElem (by omega)]
                    congr 2
                    simp [List.getD_eq_getElem?_getD, show i - 1 < Z.length by omega]
                  rw [e8, ← List.append_assoc]
                  obtain ⟨O, q, h7, h6⟩ := mList_end (D ++ Z.take (i - 1)) (Z.getD (i - 1) default)
                  exact ⟨O, q, h7, h6.trans (HrZ.out _ (by rw [show Z.getD (i - 1) default = Z[i - 1]'(by omega) by simp [List.getD_eq_getElem?_getD, show i - 1 < Z.length by omega]]; exact List.getElem_mem _))⟩
                have lg := rowi.lt
                have hszb := Bi.size
                generalize Z.getD i default = p at c0 c1 c2 hms hrp hnew
                obtain ⟨pr, pi, po⟩ := p
                obtain rfl : pr = s := hrp
                generalize mList (D ++ Z.take i) = O at hms hml own hnew hend
                have Hms := Lib.hid hms
                have Hnew := Lib.hid hnew
                have Hend := Lib.hid hend
                clear hms rowi hnew hend
                have hii : (i : Int) < (m2 : Int) := by omega
                go_upto_region 28 with fail
                refine name_world ?_
                intro w6 hw6
                have x17 : Bx w6 wr.heap.size 38 #[.string pr, .int .i64 pi, .int .i64 po] := by rw [hw6]; exact Bx.new _ _ _
                have hb6 : Below wr.heap.size wr w6 := by rw [hw6]; exact bnew (Below.refl _ _)
                have Hob := Lib.hid (OwnQ.base own)
                replace own := own.keep hb6
                have B6 := Bi.trans (hb6.mono (by omega))
                have hs6 : B2 ≤ w6.heap.size := by have := hb6.size; omega
                clear hw6 hb6 c0 c1 c2 lg
                have l17 := x17.lt
                generalize wr.heap.size = p17 at *
                by_cases hi0 : (0 : Int) < (i : Int)
                · have hi1 : 0 < i := by omega
                  obtain ⟨O', q, hO, hq⟩ := Hend.out (by omega)
                  subst hO
                  rcases own.form with ⟨h9, _⟩ | ⟨gs, cap3, rfl, hgs, hgsl, hcap3, rowO⟩
                  · simp at h9
                  obtain ⟨⟨e0, e1, e2⟩, _⟩ := rowQ_at (i := O'.length) rowO rfl rfl
                  have fO : ∀ o, w6.frozen? ⟨gs, o, none⟩ = false := rowO.frozen
                  have hl : (O' ++ [q]).length = O'.length + 1 := by simp
                  obtain ⟨qr, qi, qo⟩ := q
                  have hq2 : pr = qr := hq.symm
                  subst hq2
                  have Hown := Lib.hid (show OwnQ B2 w6 (.slice (some ⟨gs, 0, none⟩) (O' ++ [(⟨pr, qi, qo⟩ : Pl)]).length cap3) (O' ++ [⟨pr, qi, qo⟩]) from own)
                  have hgp : gs < p17 := (Hob.out gs (by rfl)).2
                  rw [hl] at own hml hcap3 ⊢
                  have Hl := Lib.hid hl
                  clear hl rowO hq
                  obtain ⟨m, hm⟩ : ∃ m, m = O'.length := ⟨_, rfl⟩
                  have Hmm := Lib.hid hm
                  rw [← hm] at own hml hcap3 e0 e1 e2 ⊢
                  clear hm
                  have g1 : (0 : Int) < (m : Int) + 1 := by omega
                  have g2 : IntKind.i64.wrap ((m : Int) + 1 - 1) = (m : Int) := by rw [IntKind.wrap_i64]; omega
                  have g3 : (m : Int) < (m : Int) + 1 := by omega
                  have g4 : (0 : Int) ≤ (m : Int) := by omega
                  obtain ⟨r17, s17, _⟩ := x17.all
                  by_cases hpi : pi ≤ qo
                  · go_upto_region 29 with fail
                    go_quiet (fail)
                    go_upto_region 30 with fail
                    refine name_world ?_
                    intro w7 hw7
                    have hb7 : Below w6.heap.size w6 w7 := by rw [hw7]; first | exact Below.refl _ _ | exact (Below.refl _ _).drew | exact below_drewN (Below.refl _ _) _
                    have x17b := x17.keep hb7
                    have d2 : w7.cell? ⟨gs, m * 3 + 2, none⟩ = some (.int .i64 qo) := by rw [hb7.cell (p := ⟨gs, m * 3 + 2, none⟩) hgsl]; exact e2
                    have own7 := Hown.out.keep hb7
                    have B7 := B6.trans (hb7.mono hs6)
                    have hgs7 : gs < w7.heap.size := Nat.lt_of_lt_of_le hgsl hb7.size
                    clear hw7 hb7 x17 e0 e1 e2 r17 s17 own fO
                    obtain ⟨r17, s17, l17b⟩ := x17b.all
                    refine wp_region_tail (fun z : BW w7.heap.size w7 => z.w) 12 (by kernel_rfl) (by kernel_rfl) (BW.start _ _) rfl ?_
                    simp only [List.take_succ_cons, List.take_zero, List.drop_succ_cons, List.drop_zero]
                    repeat (go_big_quiet_step (fail))
                    refine wpQuiet_nil ?_
                    intro z
                    have own8 := own7.keep z.below
                    have B8 := B7.trans (z.below.mono (Nat.le_trans size4 B7.size))
                    have d2z : z.w.cell? ⟨gs, m * 3 + 2, none⟩ = some (.int .i64 qo) := by rw [z.below.cell (p := ⟨gs, m * 3 + 2, none⟩) hgs7]; exact d2
                    have fz : ∀ o, z.w.frozen? ⟨gs, o, none⟩ = false := by
                      rcases own8.form with ⟨h9, _⟩ | ⟨gx, cx, h9, _, _, _, rx⟩
                      · simp at h9
                      · injection h9 with h9 _ _
                        injection h9 with h9
                        injection h9 with h9
                        subst h9
                        exact rx.frozen
                    have hgz : gs < z.w.heap.size := Nat.lt_of_lt_of_le hgs7 z.below.size
                    generalize z.w = wz at *
                    clear d2 r17 s17 x17b z
                    have own9 := own8.setOut (imax qo po)
                    have B9 : Below B2 w4 (wz.setCell ⟨gs, m * 3 + 2, none⟩ (.int .i64 (imax qo po))) := Below.set' (by omega) B8
                    have hpe : mList (D ++ Z.take (i + 1)) = O' ++ [⟨pr, qi, imax qo po⟩] := by rw [Hms.out, mStep_snoc, if_pos ⟨rfl, hpi⟩, imax_max]
                    rw [← hpe, Hl.out, ← Hmm.out] at own9
                    have H9 := Lib.hid (And.intro own9 B9)
                    clear own9 B9 own8 own7 B7 B8 hpe
                    go_wp2_with fail
                    go_roundw
                    case rel => exact ⟨i + 1, hli, by go_num, H9.out.1, H9.out.2⟩
                    case measure => simp [intOf] <;> omega
                  · go_upto_region 29 with fail
                    go_quiet (fail)
                    clear e0 e1 e2 r17 s17
                    go_upto_region 31 with fail
                    refine name_world ?_
                    intro w7 hw7
                    have hb7 : Below w6.heap.size w6 w7 := by rw [hw7]; first | exact Below.refl _ _ | exact (Below.refl _ _).drew | exact below_drewN (Below.refl _ _) _
                    have x17b := x17.keep hb7
                    replace own := own.keep hb7
                    have B7 := B6.trans (hb7.mono hs6)
                    have hs7 := hb7.size
                    clear hw7 hb7 x17
                    obtain ⟨q17, f17, l17b⟩ := x17b.all
                    go_wp2_with (at_builtin; refine pl_append (B := B2) (p := ⟨pr, pi, po⟩) rfl (.tmp 147) (.tmp 149) rfl rfl w7.heap.size rfl (OwnQ.keep own (bnew (Below.refl _ _))) (Bx.new _ _ _) (by rw [Hl.out, ← Hmm.out]; omega) (by simp; omega) ?_)
                    intro v' w8 own8 ap
                    have B8 := ap.below (bnew' B7 (by omega)) (Nat.le_refl _) (by simp; omega) (fun g hg => (OwnQ.base own g hg).1)
                    have hpe : mList (D ++ Z.take (i + 1)) = O' ++ [⟨pr, qi, qo⟩, ⟨pr, pi, po⟩] := by rw [Hms.out]; rw [mStep_snoc, if_neg (fun h => by have := h.2; simp only at this; omega)]; simp
                    rw [← hpe] at own8
                    have H8 := Lib.hid (And.intro own8 B8)
                    clear own8 B8 ap hpe own
                    go_wp2_with fail
                    go_roundw
                    case rel => exact ⟨i + 1, hli, by go_num, H8.out.1, H8.out.2⟩
                    case measure => simp [intOf] <;> omega
                · have hi1 : ¬ 0 < i := by omega
                  obtain ⟨sa, sc, hsl⟩ := own.slice
                  subst hsl
                  obtain ⟨m, hm⟩ : ∃ m, m = O.length := ⟨_, rfl⟩
                  have Hmm := Lib.hid hm
                  rw [← hm] at own hml ⊢
                  clear hm
                  obtain ⟨r17, s17, _⟩ := x17.all
                  go_upto_region 29 with fail
                  go_quiet (fail)
                  clear r17 s17
                  go_upto_region 31 with fail
                  refine name_world ?_
                  intro w7 hw7
                  have hb7 : Below w6.heap.size w6 w7 := by rw [hw7]; first | exact Below.refl _ _ | exact (Below.refl _ _).drew | exact below_drewN (Below.refl _ _) _
                  have x17b := x17.keep hb7
                  replace own := own.keep hb7
                  have B7 := B6.trans (hb7.mono hs6)
                  have hs7 := hb7.size
                  clear hw7 hb7 x17
                  obtain ⟨q17, f17, l17b⟩ := x17b.all
                  go_wp2_with (at_builtin; refine pl_append (B := B2) (p := ⟨pr, pi, po⟩) rfl (.tmp 147) (.tmp 149) rfl rfl w7.heap.size rfl (OwnQ.keep own (bnew (Below.refl _ _))) (Bx.new _ _ _) (by rw [← Hmm.out]; omega) (by simp; omega) ?_)
                  intro v' w8 own8 ap
                  have B8 := ap.below (bnew' B7 (by omega)) (Nat.le_refl _) (by simp; omega) (fun g hg => (OwnQ.base own g hg).1)
                  have hpe : mList (D ++ Z.take (i + 1)) = O ++ [⟨pr, pi, po⟩] := by rw [Hms.out]; exact Hnew.out (by omega)
                  rw [← hpe] at own8
                  have H8 := Lib.hid (And.intro own8 B8)
                  clear own8 B8 ap hpe own
                  go_wp2_with fail
                  go_roundw
                  case rel => exact ⟨i + 1, hli, by go_num, H8.out.1, H8.out.2⟩
                  case measure => simp [intOf] <;> omega
              · obtain rfl : i = m2 := by omega
                rw [show Z.take i = Z from List.take_of_length_le (by omega)] at own
                have B5 : Below r w2 wr := B4.trans (Bi.mono (by omega))
                have Ln := Lp.next HL2.out.grp HL2.out.vl HV.out Hnd.out hjT Hs.out.1 HZ.out.1 HZ.out.2.1 HZ.out.2.2.1 HZ.out.2.2.2.1 HZ.out.2.2.2.2.1 HZ.out.2.2.2.2.2 size4 HS.out.2.2 (by intro g' h'; have h8 : g = g' := (by simpa [Value.ownBlock] using h'); omega) hr3 Bi own
                have HLn := Lib.hid Ln
                clear Ln own Bi
                go_wp2_with fail
                go_roundw
                case rel => exact ⟨j + 1, D ++ Z, hlt, by go_num, HLn.out, B5⟩
                case measure => simp [intOf] <;> omega
          · obtain rfl : j = m := by omega
            have hT9 : T.take j = T := List.take_of_length_le (by rw [HS.out.1]; exact Nat.le_refl _)
            have HL9 := Lib.hid L
            clear L
            go_wp2_with fail
            go_ret2
            have hg9 := HL9.out.grp
            rw [hT9] at hg9
            refine ⟨_, mList D, rfl, ⟨D, hg9.srt, hg9.src (fun p hp => (HS.out.2.1 _).2 (HG.out.mem p hp)), HL9.out.vl, rfl⟩, own_mono3 HL9.out.out (by omega), B1.trans (Bw.mono (by omega))⟩
end Go.Proofs.YteebkfdocdmboaaDoor
