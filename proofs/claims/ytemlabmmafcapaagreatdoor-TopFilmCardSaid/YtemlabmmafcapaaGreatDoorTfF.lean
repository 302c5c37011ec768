/- conform.ParseList at a text that was printed. (printed by gen_tff.py) -/
import Derived.Test.YtemlabmmafcapaaGreatDoorTfE
import Derived.Test.YtemlabmmafcapaaGreatDoorPlF
import Derived.Deep.AppendLies
import Derived.OwnWalk
namespace Go.Proofs.YtemlabmmafcapaaGreatDoor
open Go.RowKit

/-- v is a slice of the call's own that reads as the events L; or nil, and L has none. -/
def OwnE (B : Nat) (w : World) (v : Value) (L : List Ev) : Prop := w.ownsRow B 55 6 v L.length (evCells L)
theorem own_keepg {w w' : World} {B : Nat} {e : TypeId} {s : Nat} {v : Value} {n : Nat} {xs : List Value} (h : w.ownsRow B e s v n xs) (hk : ∀ g, v.ownBlock = some g → g < w.heap.size → w'.heap[g]? = w.heap[g]?) : w'.ownsRow B e s v n xs := by
  refine ⟨h.1, ?_⟩
  rcases h.2 with h0 | ⟨g, cap, cur, e1, e2, e3, e4⟩
  · exact .inl h0
  · exact .inr ⟨g, cap, cur, e1, e2, (hk g (by rw [e1]; rfl) (Array.getElem?_eq_some_iff.1 e3).1).trans e3, e4⟩
theorem OwnE.keep {B : Nat} {w w' : World} {v : Value} {L : List Ev} (h : OwnE B w v L) (hb : Below w.heap.size w w') : OwnE B w' v L := own_keepg h fun g _ hg => hb.block g hg
theorem OwnE.base {B : Nat} {w : World} {v : Value} {L : List Ev} (h : OwnE B w v L) : ∀ g, v.ownBlock = some g → B ≤ g ∧ g < w.heap.size := by
  intro g hg
  rcases h.2 with ⟨rfl, _⟩ | ⟨g', cap, cur, e1, e2, e3, _⟩
  · cases hg
  · rw [e1] at hg
    simp only [Value.ownBlock, Option.some.injEq] at hg
    have := (Array.getElem?_eq_some_iff.1 e3).1
    omega
theorem OwnE.form {B : Nat} {w : World} {v : Value} {L : List Ev} (h : OwnE B w v L) : ∃ a c, v = .slice a L.length c := by
  rcases h.2 with ⟨rfl, h0⟩ | ⟨g', cap, cur, rfl, _⟩
  · exact ⟨none, 0, by rw [h0]⟩
  · exact ⟨_, _, rfl⟩
theorem OwnE.slE {B : Nat} {w : World} {v : Value} {L : List Ev} (h : OwnE B w v L) (hl : L.length ≤ 1000) : SlE w v L := by
  by_cases hne : L = []
  · subst hne
    rcases h.2 with ⟨rfl, _⟩ | ⟨g', cap, cur, rfl, _⟩
    · exact ⟨none, 0, rfl, by unfold maxLen; simp, .inl rfl⟩
    · exact ⟨_, cap, rfl, by unfold maxLen; simp, .inl rfl⟩
  · obtain ⟨g, c, cs, rfl, _, x, _, _, hh⟩ := clone_open h hne
    exact hh.slE x (by unfold maxLen; omega) c
theorem ev_one {L : List Ev} : ∀ u ∈ evCells L, u.oneCell' = true := by
  intro u hu
  unfold evCells at hu
  obtain ⟨e, _, he⟩ := List.mem_flatMap.1 hu
  simp only [Ev.six, List.mem_cons, List.not_mem_nil, or_false] at he
  rcases he with rfl | rfl | rfl | rfl | rfl | rfl <;> rfl
structure Apd (B : Nat) (w w' : World) (v v' : Value) : Prop where
  grown : w.grownBy w' v.ownBlock
  size : w.heap.size ≤ w'.heap.size
theorem Apd.bx {B : Nat} {w w' : World} {v v' : Value} (h : Apd B w w' v v') {b : Nat} {T : TypeId} {cs : Array Value} (x : Bx w b T cs) (hne : v.ownBlock ≠ some b) : Bx w' b T cs := by
  unfold Bx
  rw [h.grown.block b x.lt (fun e => hne e.symm)]; exact x
theorem Apd.below {B W0 : Nat} {w0 w w' : World} {v v' : Value} (h : Apd B w w' v v') (hb : Below W0 w0 w) (hW : W0 ≤ B) (hB : B ≤ w.heap.size) (hv : ∀ g, v.ownBlock = some g → W0 ≤ g) : Below W0 w0 w' := hb.grown h.grown (by omega) hv
theorem ev_append {B : Nat} {w : World} {L : List Ev} {p : Ev} {v : Value} {ops : Array Oper} {rest : List Oper} {o : Oper} {a : Act} {Q : Exit → Act → World → Prop} (hgd : o.guard = none) (s x : Operand)
    (ho : o.op = .call { callee := .builtin .append, args := #[s, x], argTypes := #[22, 22] }) (hs : a.eval s = v) (g : Nat) (hx : a.eval x = .slice (some ⟨g, 0, none⟩) 1 1) (hm : OwnE B w v L)
    (hc : Bx w g 55 #[.string p.reel, .int .i64 p.kind, .int .i64 p.len, .int .i64 p.inn, .int .i64 p.out, .int .i64 p.pos]) (hl : L.length ≤ 1000000) (hB : B ≤ w.heap.size)
    (h : ∀ v' w', OwnE B w' v' (L ++ [p]) → Apd B w w' v v' → wpList Tryz.prog ops Q rest (a.put o.dst v') w') :
    wpList Tryz.prog ops Q (o :: rest) a w := by
  have hinfo : (Tryz.prog.info? 55).map (fun i => (i.zero, i.size, i.bytes)) = some (some (.agg #[.string ⟨#[]⟩, .int .i64 0, .int .i64 0, .int .i64 0, .int .i64 0, .int .i64 0]), 6, 56) := by kernel_rfl
  obtain ⟨i0, hi, hz0, hz1, hz2⟩ := info_parts hinfo
  have hml : maxLen = 9223372036854775807 := rfl
  refine wpList_append_lies w hgd s x 22 ho B 55 i0 (.agg #[.string ⟨#[]⟩, .int .i64 0, .int .i64 0, .int .i64 0, .int .i64 0, .int .i64 0]) 6 56 Tryz.underlying22 hi hz0 hz1 hz2 rfl (by decide) _ L.length (evCells L) hs hm ⟨g, 0, none⟩ 1 1 (evCells [p]) hx rfl ?_ ev_one (by omega) (by omega) (by omega) hB _ rfl ?_
  · intro j u hj
    have := hc.all.1 j
    rw [show ((⟨g, 0, none⟩ : Addr).add j) = ⟨g, j, none⟩ by simp [Addr.add]; intro e; exact e.symm, this]
    simpa [evCells, Ev.six] using hj
  · intro g' cap' w' hown hgrow _ _
    refine h _ w' ?_ ⟨hgrow, hgrow.size⟩
    unfold OwnE
    rw [show evCells (L ++ [p]) = evCells L ++ evCells [p] by simp [evCells], List.length_append]; exact hown
theorem evs_take {es : List Ev} {q : Nat} (h : q < es.length) : es.take (q + 1) = es.take q ++ [es.getD q default] := by
  rw [List.take_succ_eq_append_getElem h]
  simp [List.getD, h]
theorem cut_parts {TX : ByteArray} {a b : List UInt8} (h : Lib.cut TX.data.toList [10] = (a, b, true)) : (⟨(Lib.cut TX.data.toList (⟨#[10]⟩ : ByteArray).data.toList).1.toArray⟩ : ByteArray) = ofL a ∧ (⟨(Lib.cut TX.data.toList (⟨#[10]⟩ : ByteArray).data.toList).2.1.toArray⟩ : ByteArray) = ofL b ∧ (Lib.cut TX.data.toList (⟨#[10]⟩ : ByteArray).data.toList).2.2 = true := by
  rw [show (⟨#[10]⟩ : ByteArray).data.toList = [10] from rfl, h]
  exact ⟨rfl, rfl, rfl⟩

set_option maxRecDepth 100000 in
set_option maxHeartbeats 16000000 in
theorem conform_ParseList (t : ByteArray) (r : Int) (es : List Ev) (W : World) (E : EnvT W) (her : editsErr t r es = 0) (hfit : FitD r es) :
    Calls Tryz.prog 6 #[.string (ofL (textR t r es 0 (es.length + 2)))] W fun e w' => ∃ v, e = .returned (.tuple #[.agg #[.string t, .int .i64 r, v], .int .i64 0, .int .i64 0]) ∧ SlE w' v es ∧ Below W.heap.size W w' := by
  obtain ⟨ht, hr, hl5, hok⟩ := list_ok her
  obtain ⟨mx, hmx⟩ := E.max
  have hlen := textR_len ht hr hok
  have hcut := line_cut ht hr hl5 hok
  have hfld := line_fields ht hr hl5 hok
  have Hck := Lib.hid (fun (u : World) (v : Value) (hs : SlE u v es) => conform_CheckList t r v es u hs)
  rw [her] at Hck
  obtain ⟨n, hn⟩ : ∃ n, n = es.length := ⟨_, rfl⟩
  rw [← hn] at hl5 hlen hcut hfld ⊢
  have Hlen := Lib.hid hlen
  have Hcut := Lib.hid hcut
  have Hfld := Lib.hid hfld
  have Hn := Lib.hid hn
  have Hfit := Lib.hid hfit
  have Hok := Lib.hid hok
  have Hr := Lib.hid hr
  have hsz := hlen (n + 2) 0 (by omega)
  rw [← ofL_size] at hsz
  obtain ⟨T, hT⟩ : ∃ T, T = ofL (textR t r es 0 (n + 2)) := ⟨_, rfl⟩
  rw [← hT] at hsz ⊢
  have HT := Lib.hid hT
  have hbig : ¬ (1048576 : Int) < (T.size : Int) := by omega
  clear hT hn hfit hok hr hlen hcut hfld her ht hsz
  go_enter Tryz.func6, Tryz.ntmps6
  go_upto_region 1 with fail
  refine name_world ?_
  intro w0 hw0
  have x2 : Bx w0 W.heap.size 24 #[.string ⟨#[]⟩, .int .i64 0, .slice none 0 0] := by rw [hw0]; exact Bx.new _ _ _
  have B : Below W.heap.size W w0 := by rw [hw0]; exact bnew (Below.refl _ W)
  clear hw0
  go_upto_region 4 with fail
  refine name_world ?_
  intro w1 hw1
  have x5 : Bx w1 w0.heap.size 24 #[.string ⟨#[]⟩, .int .i64 0, .slice none 0 0] := by rw [hw1]; exact Bx.new _ _ _
  have h25 : W.heap.size < w0.heap.size := x2.lt
  replace x2 : Bx w1 W.heap.size 24 #[.string ⟨#[]⟩, .int .i64 0, .slice none 0 0] := by rw [hw1]; exact x2.alloc _
  replace B : Below W.heap.size W w1 := by rw [hw1]; exact bnew B
  clear hw1 hbig
  generalize w0.heap.size = p5 at *
  have l5 := x5.lt
  obtain ⟨bs, hbs⟩ : ∃ bs, bs = p5 + 1 := ⟨_, rfl⟩
  have hbsW : bs ≤ w1.heap.size := by omega
  have hb5 : p5 < bs := by omega
  have hb51 : bs ≤ p5 + 1 := by omega
  clear hbs
  go_wp2_with fail
  go_loopw [0, 6, 7] (fun tv hv lv wr => ∃ (j : Nat) (ev : Value), j ≤ n + 2 ∧ tv = .string (ofL (textR t r es j (n + 2 - j))) ∧ hv = .int .i64 ((min j 2 : Nat) : Int) ∧ lv = .int .i64 (j : Int) ∧ OwnE bs wr ev (es.take (j - 2)) ∧ Bx wr p5 24 #[.string (if 0 < j then t else ⟨#[]⟩), .int .i64 (if 1 < j then r else 0), ev] ∧ Bx wr W.heap.size 24 #[.string ⟨#[]⟩, .int .i64 0, .slice none 0 0] ∧ Below W.heap.size W wr) (fun _ _ lv _ => n + 2 - (intOf lv).toNat)
  case atStart => exact ⟨0, _, by omega, by show Value.string T = _; rw [Nat.sub_zero, ← HT.out], rfl, rfl, World.ownsRow_nil _ _ _ _, x5, x2, B⟩
  case round =>
    clear x5 x2 B
    obtain ⟨j, ev, hj, rfl, rfl, rfl, own, x5, x2, B⟩ := hrel
    by_cases hlt : j < n + 2
    · obtain ⟨c, hc⟩ : ∃ c, n + 2 - j = c + 1 := ⟨n + 2 - j - 1, by omega⟩
      have hc2 : n + 2 - (j + 1) = c := by omega
      rw [hc]
      have hct := Hcut.out j c hlt
      have hts := Hlen.out (c + 1) j (by omega)
      have hne := textR_ne t r es j c
      have hfl := Hfld.out j hlt
      have hls : (joinW (lineWs t r es j)).length ≤ 100 * (c + 1) := by
        refine Nat.le_trans ?_ hts
        rw [textR, lineT, List.length_append, List.length_append]
        omega
      rw [← ofL_size] at hts hls
      have hte : (ofL (textR t r es j (c + 1))).toList.isEmpty = false := by
        rw [empty_of, ofL_size]
        simp only [decide_eq_false_iff_not]
        intro h
        exact hne (List.eq_nil_of_length_eq_zero h)
      rw [← ofL_list (textR t r es j (c + 1))] at hct
      obtain ⟨TX, hTX⟩ : ∃ TX, TX = ofL (textR t r es j (c + 1)) := ⟨_, rfl⟩
      rw [← hTX] at hct hts hte ⊢
      obtain ⟨H1, H2, H3⟩ := cut_parts hct
      obtain ⟨LN, hLN⟩ : ∃ L, L = ofL (joinW (lineWs t r es j)) := ⟨_, rfl⟩
      obtain ⟨RS, hRS⟩ : ∃ L, L = ofL (textR t r es (j + 1) c) := ⟨_, rfl⟩
      rw [← hLN] at H1 hfl hls
      rw [← hRS] at H2
      have KC := Lib.hid (fun w hm => Tryz.strings_Cut TX ⟨#[10]⟩ mx w (by omega) hm)
      rw [H1, H2, H3] at KC
      have KB := Lib.hid (fun w => conform_blanks LN (by omega) w)
      rw [hfl] at KB
      have HRS : Hid (RS = ofL (textR t r es (j + 1) (n + 2 - (j + 1)))) := Lib.hid (by rw [hc2]; exact hRS)
      have Hc := Lib.hid hc
      clear hct hts hne hfl hls hTX hLN hRS H1 H2 H3 hc hc2
      have dm := cell_below B hmx
      have hszb := B.size
      go_wp2_with fail
      refine (KC.out _ dm).mono ?_
      rintro e w1 ⟨rfl, q, hw1⟩
      have hb : Below wr.heap.size wr w1 := by rw [hw1]; exact below_drewN (Below.refl _ _) q
      clear hw1
      replace x5 := x5.keep hb
      replace x2 := x2.keep hb
      replace own := own.keep hb
      replace B := bcall B hb
      clear hb dm KC
      go_wp2_with fail
      refine (KB.out _).mono ?_
      rintro e w2 ⟨wv, rfl, hw, hb⟩
      replace x5 := x5.keep hb
      replace x2 := x2.keep hb
      replace own := own.keep hb
      replace B := bcall B hb
      clear hb KB hte hszb
      have hcase : j = 0 ∨ j = 1 ∨ ∃ q, j = q + 2 ∧ q < n := by
        by_cases h1 : j = 0
        · exact .inl h1
        by_cases h2 : j = 1
        · exact .inr (.inl h2)
        exact .inr (.inr ⟨j - 2, by omega, by omega⟩)
      rcases hcase with rfl | rfl | ⟨q, rfl, hq⟩
      · replace x5 : Bx w2 p5 24 #[.string ⟨#[]⟩, .int .i64 0, ev] := x5
        obtain ⟨WW, hWW⟩ : ∃ X, X = ofL t.data.toList := ⟨_, rfl⟩
        obtain ⟨g, cw, ew, hg, hcs⟩ := hw
        rw [show ((lineWs t r es 0).map ofL).length = 2 from rfl] at ew hcs
        subst ew
        have hw0 : w2.cell? ⟨g, 0, none⟩ = some (.string ⟨#[84, 73, 84, 76, 69, 58]⟩) := hcs 0 (by omega)
        have hw1 : w2.cell? ⟨g, 1, none⟩ = some (.string WW) := by rw [hWW]; exact hcs 1 (by omega)
        clear hcs
        go_upto_region 16 with fail
        refine name_world ?_
        intro w3 hw3
        rw [← hw3] at hw0 hw1 hg x5 x2 B own
        clear hw3
        have hgz := hg
        refine wp_region_grd 12 (fun _ => false) (fun q u w' => if q = 7 then ∃ gn, u = .slice (some ⟨gn, 0, none⟩) 2 2 ∧ Bx w' gn 9 #[.string ⟨#[84, 73, 84, 76, 69, 58]⟩, .string ⟨#[82, 65, 84, 69, 58]⟩] else if q = 9 then ∃ gn, u = .pointer (some ⟨gn, 0, none⟩) ∧ Bx w' gn 9 #[.string ⟨#[84, 73, 84, 76, 69, 58]⟩, .string ⟨#[82, 65, 84, 69, 58]⟩] else u = [.slice (some ⟨g, 0, none⟩) 2 cw, .int .i64 2, .bool false, .bool false, .slice (some ⟨g, 0, none⟩) 2 cw, .pointer (some ⟨g, 0, none⟩), .string ⟨#[84, 73, 84, 76, 69, 58]⟩, undef, .int .i64 0, undef, .string ⟨#[84, 73, 84, 76, 69, 58]⟩, .bool false].getD q undef) (fun _ => false) (fun w' => Below w3.heap.size w3 w') (by kernel_rfl) (by kernel_rfl) (fun _ _ _ _ _ h => h)
          (fun _ _ h e => e.trans (h.mono e.size)) (fun t u a' b' hb h => ?_) (Below.refl _ _).drew ?_ ?_ ?_
        · split
          · rename_i h4
            rw [if_pos h4] at h
            obtain ⟨gn, e1, e3⟩ := h
            exact ⟨gn, e1, e3.keep hb⟩
          · rename_i h4
            rw [if_neg h4] at h
            split
            · rename_i h5
              rw [if_pos h5] at h
              obtain ⟨gn, e1, e3⟩ := h
              exact ⟨gn, e1, e3.keep hb⟩
            · rename_i h5
              rw [if_neg h5] at h
              exact h
        · intro t op ht hlt hop
          clear hlt
          rcases (by omega : t = 0 ∨ t = 1 ∨ t = 2 ∨ t = 3 ∨ t = 4 ∨ t = 5 ∨ t = 6 ∨ t = 7 ∨ t = 8 ∨ t = 9 ∨ t = 10 ∨ t = 11) with rfl | rfl | rfl | rfl | rfl | rfl | rfl | rfl | rfl | rfl | rfl | rfl
          all_goals simp only [List.getElem?_cons_zero, List.getElem?_cons_succ, Option.some.injEq] at hop
          all_goals subst hop
          all_goals intro a wx hE hag hdep
          · refine grd_none rfl ?_
            have e0 := slot_eq (hag 11 rfl)
            exact rel_pure _ rfl rfl (by simp [go_sem, e0])
          · refine grd_none rfl ?_
            have e0 := slot_eq (hdep ⟨0, .data⟩ (by simp) rfl)
            exact rel_pure _ rfl rfl (by simp [go_sem, e0])
          · refine grd_none rfl ?_
            have e0 := slot_eq (hdep ⟨1, .data⟩ (by simp) rfl)
            exact rel_pure _ rfl rfl (by simp [go_sem, e0])
          · refine grd_none rfl ?_
            have e0 := slot_eq (hdep ⟨2, .data⟩ (by simp) rfl)
            exact rel_pure _ rfl rfl (by simp [go_sem, e0])
          · refine grd_yes (j := 3) (b := false) rfl (hdep ⟨3, .guard⟩ (by simp) rfl) ?_
            have e0 := slot_eq (hag 11 rfl)
            exact rel_pure _ rfl rfl (by simp [go_sem, e0])
          · refine grd_yes (j := 3) (b := false) rfl (hdep ⟨3, .guard⟩ (by simp) rfl) ?_
            have e0 := slot_eq (hdep ⟨4, .data⟩ (by simp) rfl)
            exact rel_pure _ rfl rfl (by simp [go_sem, e0])
          · refine grd_yes (j := 3) (b := false) rfl (hdep ⟨3, .guard⟩ (by simp) rfl) ?_
            have e0 := slot_eq (hdep ⟨5, .data⟩ (by simp) rfl)
            have hq := (hE.cell (p := ⟨g, 0, none⟩) hgz).trans hw0
            exact rel_pure _ rfl rfl (by simp [go_sem, e0, hq])
          · refine grd_yes (j := 3) (b := false) rfl (hdep ⟨3, .guard⟩ (by simp) rfl) ?_
            exact rel_val (v := .slice (some ⟨wx.heap.size, 0, none⟩) 2 2) (w' := wx.alloc (.cells #[.string ⟨#[84, 73, 84, 76, 69, 58]⟩, .string ⟨#[82, 65, 84, 69, 58]⟩] 9)) (by simp [go_sem]) ⟨wx.heap.size, rfl, Bx.new _ _ _⟩ ((Below.refl _ _).alloc (Nat.le_refl _) _) (fun h => by cases h)
          · refine grd_yes (j := 3) (b := false) rfl (hdep ⟨3, .guard⟩ (by simp) rfl) ?_
            have e0 := slot_eq (hag 6 rfl)
            exact rel_pure _ rfl rfl (by simp [go_sem, e0])
          · refine grd_yes (j := 3) (b := false) rfl (hdep ⟨3, .guard⟩ (by simp) rfl) ?_
            obtain ⟨gn, e1, xn⟩ := hdep ⟨7, .data⟩ (by simp) rfl
            have e1 := slot_eq e1
            have e2 := slot_eq (hdep ⟨8, .data⟩ (by simp) rfl)
            exact rel_val (v := .pointer (some ⟨gn, 0, none⟩)) (w' := wx) (by simp [go_sem, e1, e2]) ⟨gn, rfl, xn⟩ (Below.refl _ _) (fun h => by cases h)
          · refine grd_yes (j := 3) (b := false) rfl (hdep ⟨3, .guard⟩ (by simp) rfl) ?_
            obtain ⟨gn, e1, xn⟩ := hdep ⟨9, .data⟩ (by simp) rfl
            have e1 := slot_eq e1
            have hq := xn.all.1 0
            exact rel_pure _ rfl rfl (by simp [go_sem, e1, hq])
          · refine grd_yes (j := 3) (b := false) rfl (hdep ⟨3, .guard⟩ (by simp) rfl) ?_
            have e0 := slot_eq (hdep ⟨6, .data⟩ (by simp) rfl)
            have e1 := slot_eq (hdep ⟨10, .data⟩ (by simp) rfl)
            exact rel_pure _ rfl rfl (by simp [go_sem, e0, e1])
        · intro t op ht hlt; cases hlt
        · intro vs wy hE hvs _
          have kz : vs 3 = .bool false := hvs 3 (by omega)
          have kz2 : vs 11 = .bool false := hvs 11 (by omega)
          simp only [List.drop_succ_cons, List.drop_zero, putAll, dstAt, List.getElem?_toArray, List.getElem?_cons_zero, List.getElem?_cons_succ, Option.bind_some, Act.put, List.setIfInBounds_toArray, List.set_cons_zero, List.set_cons_succ, kz, kz2]
          clear hvs kz kz2
          replace x5 := x5.keep hE
          replace x2 := x2.keep hE
          replace own := own.keep hE
          replace hw1 := (hE.cell (p := ⟨g, 1, none⟩) hg).trans hw1
          replace B := B.trans (hE.mono B.size)
          clear hE hw0 hg hgz
          have hWt : WW = t := by rw [hWW]; exact (ofL_of rfl).symm
          rw [hWt] at hw1
          clear hWW hWt WW
          obtain ⟨q5, f5, l5'⟩ := x5.all
          go_wp2_with fail
          go_roundw
          case rel => exact ⟨1, ev, by omega, by rw [HRS.out], rfl, by go_num, own_keepg own (fun g' hg' _ => Below.heap_setCell _ _ _ _ (by have := (OwnE.base own g' hg').1; show g' ≠ p5; omega)), x5.set 0 _, x2.other _ _ (by show W.heap.size ≠ p5; omega), bput (by omega) B⟩
          case measure => simp [intOf]
      · replace x5 : Bx w2 p5 24 #[.string t, .int .i64 0, ev] := x5
        obtain ⟨WW, hWW⟩ : ∃ X, X = ofL (Lib.decDigits r.toNat) := ⟨_, rfl⟩
        obtain ⟨g, cw, ew, hg, hcs⟩ := hw
        rw [show ((lineWs t r es 1).map ofL).length = 2 from rfl] at ew hcs
        subst ew
        have hw0 : w2.cell? ⟨g, 0, none⟩ = some (.string ⟨#[82, 65, 84, 69, 58]⟩) := hcs 0 (by omega)
        have hw1 : w2.cell? ⟨g, 1, none⟩ = some (.string WW) := by rw [hWW]; exact hcs 1 (by omega)
        clear hcs
        go_upto_region 16 with fail
        refine name_world ?_
        intro w3 hw3
        rw [← hw3] at hw0 hw1 hg x5 x2 B own
        clear hw3
        have hgz := hg
        refine wp_region_grd 12 (fun _ => false) (fun q u w' => if q = 7 then ∃ gn, u = .slice (some ⟨gn, 0, none⟩) 2 2 ∧ Bx w' gn 9 #[.string ⟨#[84, 73, 84, 76, 69, 58]⟩, .string ⟨#[82, 65, 84, 69, 58]⟩] else if q = 9 then ∃ gn, u = .pointer (some ⟨gn, 1, none⟩) ∧ Bx w' gn 9 #[.string ⟨#[84, 73, 84, 76, 69, 58]⟩, .string ⟨#[82, 65, 84, 69, 58]⟩] else u = [.slice (some ⟨g, 0, none⟩) 2 cw, .int .i64 2, .bool false, .bool false, .slice (some ⟨g, 0, none⟩) 2 cw, .pointer (some ⟨g, 0, none⟩), .string ⟨#[82, 65, 84, 69, 58]⟩, undef, .int .i64 1, undef, .string ⟨#[82, 65, 84, 69, 58]⟩, .bool false].getD q undef) (fun _ => false) (fun w' => Below w3.heap.size w3 w') (by kernel_rfl) (by kernel_rfl) (fun _ _ _ _ _ h => h)
          (fun _ _ h e => e.trans (h.mono e.size)) (fun t u a' b' hb h => ?_) (Below.refl _ _).drew ?_ ?_ ?_
        · split
          · rename_i h4
            rw [if_pos h4] at h
            obtain ⟨gn, e1, e3⟩ := h
            exact ⟨gn, e1, e3.keep hb⟩
          · rename_i h4
            rw [if_neg h4] at h
            split
            · rename_i h5
              rw [if_pos h5] at h
              obtain ⟨gn, e1, e3⟩ := h
              exact ⟨gn, e1, e3.keep hb⟩
            · rename_i h5
              rw [if_neg h5] at h
              exact h
        · intro t op ht hlt hop
          clear hlt
          rcases (by omega : t = 0 ∨ t = 1 ∨ t = 2 ∨ t = 3 ∨ t = 4 ∨ t = 5 ∨ t = 6 ∨ t = 7 ∨ t = 8 ∨ t = 9 ∨ t = 10 ∨ t = 11) with rfl | rfl | rfl | rfl | rfl | rfl | rfl | rfl | rfl | rfl | rfl | rfl
          all_goals simp only [List.getElem?_cons_zero, List.getElem?_cons_succ, Option.some.injEq] at hop
          all_goals subst hop
          all_goals intro a wx hE hag hdep
          · refine grd_none rfl ?_
            have e0 := slot_eq (hag 11 rfl)
            exact rel_pure _ rfl rfl (by simp [go_sem, e0])
          · refine grd_none rfl ?_
            have e0 := slot_eq (hdep ⟨0, .data⟩ (by simp) rfl)
            exact rel_pure _ rfl rfl (by simp [go_sem, e0])
          · refine grd_none rfl ?_
            have e0 := slot_eq (hdep ⟨1, .data⟩ (by simp) rfl)
            exact rel_pure _ rfl rfl (by simp [go_sem, e0])
          · refine grd_none rfl ?_
            have e0 := slot_eq (hdep ⟨2, .data⟩ (by simp) rfl)
            exact rel_pure _ rfl rfl (by simp [go_sem, e0])
          · refine grd_yes (j := 3) (b := false) rfl (hdep ⟨3, .guard⟩ (by simp) rfl) ?_
            have e0 := slot_eq (hag 11 rfl)
            exact rel_pure _ rfl rfl (by simp [go_sem, e0])
          · refine grd_yes (j := 3) (b := false) rfl (hdep ⟨3, .guard⟩ (by simp) rfl) ?_
            have e0 := slot_eq (hdep ⟨4, .data⟩ (by simp) rfl)
            exact rel_pure _ rfl rfl (by simp [go_sem, e0])
          · refine grd_yes (j := 3) (b := false) rfl (hdep ⟨3, .guard⟩ (by simp) rfl) ?_
            have e0 := slot_eq (hdep ⟨5, .data⟩ (by simp) rfl)
            have hq := (hE.cell (p := ⟨g, 0, none⟩) hgz).trans hw0
            exact rel_pure _ rfl rfl (by simp [go_sem, e0, hq])
          · refine grd_yes (j := 3) (b := false) rfl (hdep ⟨3, .guard⟩ (by simp) rfl) ?_
            exact rel_val (v := .slice (some ⟨wx.heap.size, 0, none⟩) 2 2) (w' := wx.alloc (.cells #[.string ⟨#[84, 73, 84, 76, 69, 58]⟩, .string ⟨#[82, 65, 84, 69, 58]⟩] 9)) (by simp [go_sem]) ⟨wx.heap.size, rfl, Bx.new _ _ _⟩ ((Below.refl _ _).alloc (Nat.le_refl _) _) (fun h => by cases h)
          · refine grd_yes (j := 3) (b := false) rfl (hdep ⟨3, .guard⟩ (by simp) rfl) ?_
            have e0 := slot_eq (hag 6 rfl)
            exact rel_pure _ rfl rfl (by simp [go_sem, e0])
          · refine grd_yes (j := 3) (b := false) rfl (hdep ⟨3, .guard⟩ (by simp) rfl) ?_
            obtain ⟨gn, e1, xn⟩ := hdep ⟨7, .data⟩ (by simp) rfl
            have e1 := slot_eq e1
            have e2 := slot_eq (hdep ⟨8, .data⟩ (by simp) rfl)
            exact rel_val (v := .pointer (some ⟨gn, 1, none⟩)) (w' := wx) (by simp [go_sem, e1, e2]) ⟨gn, rfl, xn⟩ (Below.refl _ _) (fun h => by cases h)
          · refine grd_yes (j := 3) (b := false) rfl (hdep ⟨3, .guard⟩ (by simp) rfl) ?_
            obtain ⟨gn, e1, xn⟩ := hdep ⟨9, .data⟩ (by simp) rfl
            have e1 := slot_eq e1
            have hq := xn.all.1 1
            exact rel_pure _ rfl rfl (by simp [go_sem, e1, hq])
          · refine grd_yes (j := 3) (b := false) rfl (hdep ⟨3, .guard⟩ (by simp) rfl) ?_
            have e0 := slot_eq (hdep ⟨6, .data⟩ (by simp) rfl)
            have e1 := slot_eq (hdep ⟨10, .data⟩ (by simp) rfl)
            exact rel_pure _ rfl rfl (by simp [go_sem, e0, e1])
        · intro t op ht hlt; cases hlt
        · intro vs wy hE hvs _
          have kz : vs 3 = .bool false := hvs 3 (by omega)
          have kz2 : vs 11 = .bool false := hvs 11 (by omega)
          simp only [List.drop_succ_cons, List.drop_zero, putAll, dstAt, List.getElem?_toArray, List.getElem?_cons_zero, List.getElem?_cons_succ, Option.bind_some, Act.put, List.setIfInBounds_toArray, List.set_cons_zero, List.set_cons_succ, kz, kz2]
          clear hvs kz kz2
          replace x5 := x5.keep hE
          replace x2 := x2.keep hE
          replace own := own.keep hE
          replace hw1 := (hE.cell (p := ⟨g, 1, none⟩) hg).trans hw1
          replace B := B.trans (hE.mono B.size)
          clear hE hw0 hg hgz
          have KI := Lib.hid (fun w => num_Integer r Hr.out WW hWW w)
          clear hWW
          go_wp2_with fail
          refine (KI.out _).mono ?_
          rintro e w4 ⟨rfl, hb⟩
          replace x5 := x5.keep hb
          replace x2 := x2.keep hb
          replace own := own.keep hb
          replace B := bcall B hb
          clear hb KI hw1
          obtain ⟨q5, f5, l5'⟩ := x5.all
          go_wp2_with fail
          go_roundw
          case rel => exact ⟨2, ev, by omega, by rw [HRS.out], rfl, by go_num, own_keepg own (fun g' hg' _ => Below.heap_setCell _ _ _ _ (by have := (OwnE.base own g' hg').1; show g' ≠ p5; omega)), x5.set 1 _, x2.other _ _ (by show W.heap.size ≠ p5; omega), bput (by omega) B⟩
          case measure => simp [intOf]
      · replace x5 : Bx w2 p5 24 #[.string t, .int .i64 r, ev] := by
          have e1 : (if 0 < q + 2 then t else ⟨#[]⟩) = t := if_pos (by omega)
          have e2 : (if 1 < q + 2 then r else 0) = r := if_pos (by omega)
          rw [e1, e2] at x5
          exact x5
        have hmin : ((min (q + 2) 2 : Nat) : Int) = 2 := by rw [Nat.min_eq_right (by omega)]; rfl
        rw [show q + 2 - 2 = q by omega] at own
        have hlq : (es.take q).length = q := by rw [List.length_take]; have := Hn.out; omega
        obtain ⟨a0, c0, e0⟩ := own.form
        rw [hlq] at e0
        subst e0
        obtain ⟨a1, a2, a3, a4, a5, a6, a7, a8, a9⟩ := ev_facts Hok.out (k := q) (by rw [← Hn.out]; exact hq)
        obtain ⟨b1, b2, b3, b4⟩ := Hfit.out q (by rw [← Hn.out]; exact hq)
        have htk := evs_take (es := es) (q := q) (by rw [← Hn.out]; exact hq)
        replace hw : SlT w2 wv ((evWs r (es.getD q default) q).map ofL) := hw
        generalize es.getD q default = evq at *
        obtain ⟨reel, kind, len, inn, out, pos⟩ := evq
        have KE := Lib.hid (fun w E h => conform_event r q reel kind len inn out pos wv w E h Hr.out (by omega) a2 a3 a4 a5 a6 a7 a8 a9 b1 b2 b3 b4)
        obtain ⟨gw, cw, ew, hg⟩ := id hw
        have Hw := Lib.hid hw
        have Htk := Lib.hid htk
        clear htk hw hg a1 a2 a3 a4 a5 a6 a7 a8 a9 b1 b2 b3 b4
        rw [show ((evWs r ⟨reel, kind, len, inn, out, pos⟩ q).map ofL).length = 8 from rfl] at ew
        subst ew
        rw [hmin]
        clear hmin
        obtain ⟨q5, f5, l5'⟩ := x5.all
        have hob := OwnE.base own
        have hWp15 := B.size
        go_upto_region 12 with fail
        refine name_world ?_
        intro w3 hw3
        have x15 : Bx w3 w2.heap.size 55 #[.string ⟨#[]⟩, .int .i64 0, .int .i64 0, .int .i64 0, .int .i64 0, .int .i64 0] := by rw [hw3]; exact Bx.new _ _ _
        have hb := below_eq hw3
        clear hw3 q5 f5
        replace x5 := x5.keep hb
        replace x2 := x2.keep hb
        replace own := own.keep hb
        replace B := bcall B hb
        have hw3 := Hw.out.keep hb
        have hp15 : p5 < w2.heap.size := l5'
        have hbs15 : bs ≤ w3.heap.size := by have := B.size; have := x5.lt; omega
        clear hb l5'
        generalize w2.heap.size = p15 at *
        obtain ⟨q5, f5, l5'⟩ := x5.all
        go_wp2_with fail
        refine (KE.out _ (E.below B) hw3).mono ?_
        rintro e w4 ⟨rfl, hb⟩
        replace x5 := x5.keep hb
        replace x2 := x2.keep hb
        replace x15 := x15.keep hb
        replace own := own.keep hb
        replace B := bcall B hb
        have hbs4 : bs ≤ w4.heap.size := Nat.le_trans hbs15 hb.size
        clear hb hw3 KE Hw q5 f5 l5'
        obtain ⟨q15, f15, l15⟩ := x15.all
        have HOB := Lib.hid hob
        clear hob
        go_upto_region 13 with fail
        refine name_world ?_
        intro w5 hw5
        have on : Only p15 w4 w5 := by rw [hw5]; exact ((((((Only.refl p15 w4).set _ _).set _ _).set _ _).set _ _).set _ _).set _ _
        have y15 : Bx w5 p15 55 #[.string reel, .int .i64 kind, .int .i64 len, .int .i64 inn, .int .i64 out, .int .i64 pos] := by rw [hw5]; exact (((((x15.set 0 _).set 1 _).set 2 _).set 3 _).set 4 _).set 5 _
        replace x5 := on.bx (by omega) x5
        replace x2 := on.bx (by omega) x2
        have own5 : OwnE bs w5 (.slice a0 q c0) (es.take q) := own_keepg own (fun g' hg' _ => on.block g' (by have := (HOB.out g' hg').2; omega))
        replace B := bonly B on hWp15
        have hbs5 : bs ≤ w5.heap.size := by rw [on.size]; exact hbs4
        clear hw5 on own x15 q15 f15 l15
        obtain ⟨q15, f15, l15⟩ := y15.all
        obtain ⟨q5, f5, l5'⟩ := x5.all
        go_wp2_with (at_builtin; refine ev_append (B := bs) (p := ⟨reel, kind, len, inn, out, pos⟩) rfl (.tmp 46) (.tmp 48) rfl rfl w5.heap.size rfl (OwnE.keep own5 (bnew (Below.refl _ _))) (Bx.new _ _ _) ?cl ?cB ?_)
        case cl => rw [hlq]; omega
        case cB => exact Nat.le_trans hbs5 (bnew (Below.refl _ w5)).size
        intro v' w6 hown hap
        replace x5 := hap.bx (x5.alloc _) (fun e => by have := (HOB.out p5 e).1; omega)
        replace x2 := hap.bx (x2.alloc _) (fun e => by have := (HOB.out _ e).1; omega)
        replace B := hap.below (bnew B) (by omega) (Nat.le_trans hbs5 (bnew (Below.refl _ w5)).size) (fun g' e => by have := (HOB.out g' e).1; omega)
        rw [← Htk.out] at hown
        have hlq1 : (es.take (q + 1)).length = q + 1 := by rw [List.length_take]; have := Hn.out; omega
        obtain ⟨va, vc, ev'⟩ := OwnE.form hown
        rw [hlq1] at ev'
        subst ev'
        clear hap own5 q15 f15 l15 q5 f5 l5' y15 hlq1
        obtain ⟨q5, f5, l5'⟩ := x5.all
        go_wp2_with fail
        have x5f : Bx (w6.setCell ⟨p5, 2, none⟩ (.slice va (q + 1) vc)) p5 24 #[.string (if 0 < q + 2 + 1 then t else ⟨#[]⟩), .int .i64 (if 1 < q + 2 + 1 then r else 0), .slice va (q + 1) vc] := by
          have e1 : (if 0 < q + 2 + 1 then t else ⟨#[]⟩) = t := if_pos (by omega)
          have e2 : (if 1 < q + 2 + 1 then r else 0) = r := if_pos (by omega)
          rw [e1, e2]
          exact x5.set 2 _
        have own6 : OwnE bs (w6.setCell ⟨p5, 2, none⟩ (.slice va (q + 1) vc)) (.slice va (q + 1) vc) (es.take (q + 2 + 1 - 2)) := by
          rw [show q + 2 + 1 - 2 = q + 1 by omega]
          exact own_keepg hown (fun g' hg' _ => Below.heap_setCell _ _ _ _ (by have := (OwnE.base hown g' hg').1; show g' ≠ p5; omega))
        go_roundw
        case rel => exact ⟨q + 2 + 1, (.slice va (q + 1) vc), by omega, by rw [HRS.out], by rw [Nat.min_eq_right (by omega)]; rfl, by go_num, own6, x5f, x2.other _ _ (by show W.heap.size ≠ p5; omega), bput (by omega) B⟩
        case measure => simp [intOf]; omega
    · obtain rfl : j = n + 2 := by omega
      have htn : es.take (n + 2 - 2) = es := by rw [show n + 2 - 2 = n by omega, Hn.out, List.take_length]
      rw [htn] at own
      have hmin : ((min (n + 2) 2 : Nat) : Int) = 2 := by rw [Nat.min_eq_right (by omega)]; rfl
      have hnil : ofL (textR t r es (n + 2) (n + 2 - (n + 2))) = ⟨#[]⟩ := by rw [show n + 2 - (n + 2) = 0 by omega]; rfl
      replace x5 : Bx wr p5 24 #[.string t, .int .i64 r, ev] := by
        have e1 : (if 0 < n + 2 then t else ⟨#[]⟩) = t := if_pos (by omega)
        have e2 : (if 1 < n + 2 then r else 0) = r := if_pos (by omega)
        rw [e1, e2] at x5
        exact x5
      have hsl := own.slE (by have := Hn.out; omega)
      obtain ⟨a0, c0, ee⟩ := own.form
      rw [← Hn.out] at ee
      subst ee
      rw [hmin, hnil]
      clear hmin hnil htn
      obtain ⟨q5, f5, l5'⟩ := x5.all
      go_wp2_with fail
      refine (Hck.out _ _ hsl).mono ?_
      rintro e w4 ⟨rfl, hb⟩
      replace x5 := x5.keep hb
      replace x2 := x2.keep hb
      replace own := own.keep hb
      replace B := bcall B hb
      clear hb q5 f5 l5' hsl
      obtain ⟨q5, f5, l5'⟩ := x5.all
      obtain ⟨q2, f2, l2'⟩ := x2.all
      go_wp2_with fail
      have ownf : OwnE bs (((w4.setCell ⟨W.heap.size, 0, none⟩ (.string t)).setCell ⟨W.heap.size, 1, none⟩ (.int .i64 r)).setCell ⟨W.heap.size, 2, none⟩ (.slice a0 n c0)) (.slice a0 n c0) es := own_keepg own (fun g' hg' _ => by
        have := (OwnE.base own g' hg').1
        have hne : g' ≠ W.heap.size := by omega
        rw [Below.heap_setCell _ _ _ _ hne, Below.heap_setCell _ _ _ _ hne, Below.heap_setCell _ _ _ _ hne])
      exact bodyPost_ret (v := .tuple #[.agg #[.string t, .int .i64 r, .slice a0 n c0], .int .i64 0, .int .i64 0]) (by simp [results, Tryz.results6, go_sem, q2]) rfl ⟨_, rfl, ownf.slE (by have := Hn.out; omega), bput (Nat.le_refl _) (bput (Nat.le_refl _) (bput (Nat.le_refl _) B))⟩
end Go.Proofs.YtemlabmmafcapaaGreatDoor
