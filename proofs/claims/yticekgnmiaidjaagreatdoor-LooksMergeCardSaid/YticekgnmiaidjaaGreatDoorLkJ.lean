/- conform.table: shots. (printed by gen_lkj.py) -/
import Derived.Test.YticekgnmiaidjaaGreatDoorLkI
import Derived.Laws.AppendOwn
namespace Go.Proofs.YticekgnmiaidjaaGreatDoor
open Go.RowKit Go.Maps

theorem infoM : (Tryz.prog.info? 93).map (fun i => (i.zero, i.size, i.bytes)) = some (some (.map none), 1, 8) := by kernel_rfl
/-- The texts of a table's map. -/
def nmA (m : Nat × List (ByteArray × Value)) : List ByteArray := m.2.map (·.1)
def mvA (m : Nat × List (ByteArray × Value)) : Value := .map (some m.1)
theorem own_rangesG {w : World} {b r n cnt B : Nat} {D : DataW Value} {left : Lit → Bool} {w' : World} {v v' : Value} (h : w.ranges Tryz.prog 9 heldE b r n D left cnt) (ha : Apd B w w' v v') (hb : ∀ g, v.ownBlock = some g → g ≠ b ∧ g ≠ r) : w'.ranges Tryz.prog 9 heldE b r n D left cnt :=
  h.kept ha.grown (fun e => (hb b e.symm).1 rfl) (fun e => (hb r e.symm).2 rfl)
theorem oth_below2 {B g : Nat} {w0 w w' : World} (hb : Below B w0 w) (h : Oth g w w') (hg : B ≤ g) (hB : B ≤ w0.heap.size) : Below B w0 w' := by
  have h2 := hb.size
  exact ⟨h.os.trans hb.os, h.tape.trans hb.tape, h.output.trans hb.output, Nat.le_trans h2 h.size, fun k hk => (h.block k (by omega) (by omega)).trans (hb.block k hk)⟩
theorem own_open {w : World} {B n : Nat} {T : TypeId} {v : Value} {xs : List Value} (h : w.ownsRow B T 1 v n xs) (hn : 0 < n) : ∃ g c, v = .slice (some ⟨g, 0, none⟩) n c ∧ B ≤ g ∧ g < w.heap.size ∧ n ≤ c ∧ ∀ j u, xs[j]? = some u → w.cell? ⟨g, j, none⟩ = some u := by
  rcases h.2 with ⟨_, h0⟩ | ⟨g, c, cur, e1, e2, e3, e4, e5, e6, e7⟩
  · omega
  · refine ⟨g, c, e1, e2, (Array.getElem?_eq_some_iff.1 e3).1, e4, fun j u hj => ?_⟩
    rw [cell_of_row w g j cur _ (0, 0) e3]
    rw [← e7, List.getElem?_take] at hj
    split at hj
    · rw [Array.getElem?_toList] at hj; exact hj
    · cases hj
theorem run_append_nil (w : World) (ty : TypeId) (g n c : Nat) (hn : n ≤ c) : (Builtin.append_ #[140, 140] ty #[.slice (some ⟨g, 0, none⟩) n c, .slice none 0 0]).run Tryz.prog w = .ok (.slice (some ⟨g, 0, none⟩) n c) w := by
  obtain ⟨i0, hi, hz0, hz1, hz2⟩ := info_parts infoM
  have hu : ∀ w, (underlying 140).run Tryz.prog w = .ok (.slice 93) w := run_underlying Tryz.underlying140
  simp [Builtin.append_, hu, sizeOf, typeInfo, hi, Builtin.lenOf, Builtin.firstCells, hn, storeCells, Addr.add_lit]
theorem wpList_append_nilT {ops : Array Oper} {rest : List Oper} {o : Oper} {a : Act} {w : World} {Q : Exit → Act → World → Prop} (hgd : o.guard = none) (s x : Operand) (ho : o.op = .call { callee := .builtin .append, args := #[s, x], argTypes := #[140, 140] })
    (g n c m : Nat) (hm : m = n) (hn : n ≤ c) (hs : a.eval s = .slice (some ⟨g, 0, none⟩) n c) (hx : a.eval x = .slice none 0 0) (h : ∀ g' c' w', Hid (g' = g ∧ c' = c ∧ w' = w) → wpList Tryz.prog ops Q rest (a.put o.dst (.slice (some ⟨g', 0, none⟩) m c')) w') : wpList Tryz.prog ops Q (o :: rest) a w :=
  wpList_plain hgd fun _ hK => by
    have hr := run_append_nil w o.type g n c hn
    unfold Oper.wp execOp
    simp only [ho, resolve, invoke, builtin, Sem.run_bind, Sem.run_pure, Result.andThen_ok, List.map_toArray, List.map_cons, List.map_nil, hs, hx, hr]
    have h2 := h g c w (Lib.hid (And.intro rfl (And.intro rfl rfl)))
    rw [hm] at h2
    exact hK _ _ h2
theorem cmp_nil : cmpS (srtS []) = [] := by simp [srtS, cmpS, Lib.compact, Lib.compactUpTo]
theorem own_one (w : World) (T : TypeId) (u : Value) : (w.alloc (.cells #[u] T)).ownsRow w.heap.size T 1 (.slice (some ⟨w.heap.size, 0, none⟩) 1 1) 1 [u] :=
  ⟨rfl, .inr ⟨w.heap.size, 1, #[u], rfl, Nat.le_refl _, Bx.new w T #[u], Nat.le_refl _, by unfold maxLen; omega, rfl, rfl⟩⟩
set_option maxRecDepth 100000 in
set_option maxHeartbeats 8000000 in
theorem conform_shots (m0 : Nat × List (ByteArray × Value)) (ms : List (Nat × List (ByteArray × Value))) (vo : Value) (W : World) (hm : ∀ m ∈ m0 :: ms, MapG W m.1 m.2)
    (hvo : (vo = .slice none 0 0 ∧ ms = []) ∨ ∃ g c, vo = .slice (some ⟨g, 0, none⟩) ms.length c ∧ ∀ (j : Nat) (m : Nat × List (ByteArray × Value)), ms[j]? = some m → W.cell? ⟨g, j, none⟩ = some (mvA m)) (hl : ms.length ≤ 2) (hs : ∀ m ∈ m0 :: ms, m.2.length ≤ 1000) :
    Calls Tryz.prog 42 #[.map (some m0.1), vo] W fun e w' => ∃ v, e = .returned v ∧ OwnS W.heap.size w' v (allS ((m0 :: ms).flatMap nmA)) ∧ Below W.heap.size W w' := by
  obtain ⟨i0, hi, hz0, hz1, hz2⟩ := info_parts infoM
  obtain ⟨vv, hvv⟩ : ∃ vv, Hid (vv = (m0 :: ms).map mvA) := ⟨_, Lib.hid rfl⟩
  have HM := Lib.hid (And.intro hm hs)
  obtain ⟨n, hn⟩ : ∃ n, (m0 :: ms).length = n := ⟨_, rfl⟩
  have hn3 : 1 ≤ n ∧ n ≤ 3 := by rw [← hn]; simp; omega
  have HN := Lib.hid hn
  obtain ⟨b0, A0⟩ := m0
  have hb0 : Hid (mvA (b0, A0) = .map (some b0)) := Lib.hid rfl
  show Calls _ _ #[.map (some b0), vo] W _
  clear hm hs hn
  rcases hvo with ⟨rfl, h0⟩ | ⟨g, c, rfl, hg⟩
  · have H0 := Lib.hid h0
    clear h0
    go_enter Tryz.func42, Tryz.ntmps42
    have hn1 : Hid (n = 1) := Lib.hid (by rw [← HN.out, H0.out]; rfl)
    go_upto_region 3 with (at_builtin; refine wpList_append_nilT rfl (.tmp 10) (.tmp 11) rfl W.heap.size 1 1 n hn1.out (Nat.le_refl _) rfl rfl ?_; intro g12 c12 W2 hvW)
    have HO : Hid (W2.ownsRow W.heap.size 93 1 (.slice (some ⟨g12, 0, none⟩) n c12) n vv ∧ Below W.heap.size W W2) := Lib.hid (by
      have e1 : vv = [.map (some b0)] := by rw [hvv.out, H0.out, List.map_cons, hb0.out]; rfl
      rw [e1, hn1.out, hvW.out.2.2, hvW.out.1, hvW.out.2.1]
      exact ⟨own_one W 93 (.map (some b0)), bnew (Below.refl _ _)⟩)
    have HC : Hid (W.heap.size ≤ g12 ∧ g12 < W2.heap.size ∧ ∀ (j : Nat) (u : Value), vv[j]? = some u → W2.cell? ⟨g12, j, none⟩ = some u) := Lib.hid (by
      obtain ⟨g, c, e, h1, h2, _, h3⟩ := own_open HO.out.1 (by omega)
      cases e
      exact ⟨h1, h2, h3⟩)
    clear hvW
    go_wp2_with fail
    go_loopw [5, 14] (fun v i wr => ∃ (k : Nat) (ks : List ByteArray), k ≤ n ∧ i = .int .i64 (k : Int) ∧ OwnS W2.heap.size wr v ks ∧ Hid (Below W2.heap.size W2 wr ∧ ks.Perm ((((b0, A0) :: ms).take k).flatMap nmA) ∧ ks.length ≤ 1000 * k)) (fun _ i _ => n - (RowKit.intOf i).toNat)
    case atStart => exact ⟨0, [], Nat.zero_le _, rfl, World.ownsRow_nil _ _ _ _, Lib.hid ⟨Below.refl _ _, .refl _, Nat.zero_le _⟩⟩
    case round =>
      obtain ⟨k, ks, hk, rfl, own, HB⟩ := hrel
      by_cases hlt : k < n
      · obtain ⟨m, hmk⟩ : ∃ m, ((b0, A0) :: ms)[k]? = some m := ⟨_, List.getElem?_eq_getElem (by rw [HN.out]; exact hlt)⟩
        have hmm := List.mem_of_getElem? hmk
        have hmap0 := HM.out.1 m hmm
        have hal := HM.out.2 m hmm
        have c0 : wr.cell? ⟨g12, k, none⟩ = some (.map (some m.1)) := by
          have h1 := HC.out.2.2 k (.map (some m.1)) (by rw [hvv.out, List.getElem?_map, hmk]; rfl)
          exact cell_belowF HB.out.1 h1
        have hd1 : decide ((k : Int) < (n : Int)) = true := decide_eq_true (by omega)
        have hkn : (k : Int) < (n : Int) := by omega
        have HK := Lib.hid hmk
        have hblt : m.1 < W.heap.size := (HM.out.1 m hmm).lt
        have hWW := HO.out.2.size
        have hW2r := HB.out.1.size
        clear hmk hmm
        obtain ⟨b, A⟩ := m
        simp only at hmap0 hal c0 hblt
        obtain ⟨hnd, hsz, es, hownW, hperm⟩ := hmap0
        have Hperm := Lib.hid hperm
        have Hown := Lib.hid hownW
        have hown : wr.ownsMap (H := Value) Tryz.prog 9 heldE b A.length (.map es) := by
          obtain ⟨es', clock, g1, g2, g3, g4⟩ := hownW
          exact ⟨es', clock, ((HB.out.1.block b (by omega)).trans (HO.out.2.block b hblt)).trans g1, g2, g3, g4⟩
        clear hownW
        have Hcnt : Hid (Maps.size (DataW.map es) ≤ A.length) := Lib.hid (by
          have := hperm.length_eq
          rw [List.length_map] at this
          exact Nat.le_of_eq this)
        clear hnd hsz hperm
        go_wp2_with (at_range; refine wpList_range_own _ rfl _ 93 rfl 9 22 strK Tryz.underlying93 _ b A.length _ rfl hown ?_; intro w0 hrg0 hg0 hs0)
        go_frame
        clear c0 hd1 hkn hown
        obtain ⟨r, hr⟩ : ∃ r, wr.heap.size = r := ⟨_, rfl⟩
        rw [hr] at hrg0 hs0 hW2r ⊢
        have own0 : OwnS W2.heap.size w0 u5 ks := own.keep (below_of_grown hg0)
        have hne0 : u5.ownBlock ≠ some r := fun e => by have := (OwnS.base own r e).2; omega
        have B0 : Hid (Below W2.heap.size W2 w0) := Lib.hid (HB.out.1.trans ((below_of_grown hg0).mono HB.out.1.size))
        have HP := Lib.hid HB.out.2
        clear own HB hg0 hr
        clear wr
        go_loopw [5] (fun v wr => ∃ (left : Lit → Bool) (cnt : Nat) (k2 : List ByteArray), wr.ranges Tryz.prog 9 heldE b r A.length (.map es) left cnt ∧ OwnS W2.heap.size wr v (ks ++ k2) ∧ Hid (Collected (.map es) left (k2.map fun x => x.data.toList)) ∧ k2.length + cnt ≤ A.length ∧ Hid (Below W2.heap.size W2 wr) ∧ r + 1 ≤ wr.heap.size ∧ v.ownBlock ≠ some r) (fun _ wr => wr.rangeLeft b r)
        case atStart => exact ⟨_, _, [], hrg0, by rw [List.append_nil]; exact own0, Lib.hid (Collected.start _), by have := Hcnt.out; rw [List.length_nil]; omega, B0, by omega, hne0⟩
        case round =>
          obtain ⟨left, cnt, k2, hrg, own, HC2, hle, B, hsz, hne⟩ := hrel
          clear hrg0 hs0
          go_wp2_with (at_next; refine next_sg _ rfl _ rfl b r A.length _ _ _ rfl hrg ?_ ?_)
          · intro hl0
            have hks := (HC2.out.perm Hown.out strK Tryz.underlying9 hl0).trans (strKeys_permG Hperm.out)
            have hp2 : k2.Perm (A.map (·.1)) := unL hks (T := A.map (·.1)) (by rw [List.map_map]; rfl)
            have HJ : Hid (Below W2.heap.size W2 wr ∧ (ks ++ k2).Perm ((((b0, A0) :: ms).take (k + 1)).flatMap nmA) ∧ (ks ++ k2).length ≤ 1000 * (k + 1)) := Lib.hid ⟨B.out, by
              rw [List.take_add_one, HK.out, List.flatMap_append]
              exact HP.out.1.append (by simpa [nmA] using hp2), by
              have h1 := HP.out.2
              have h2 := hp2.length_eq
              rw [List.length_map] at h2
              rw [List.length_append]; omega⟩
            clear hrg hks hp2 hl0
            go_wp2_with fail
            go_roundw
            case rel => exact ⟨k + 1, ks ++ k2, by omega, by go_num, own, HJ⟩
            case measure => simp [RowKit.intOf]; omega
          · intro x cx w1 cnt1 hx hlx hat hrg1 hlt1 hg1 hen
            have own1 : OwnS W2.heap.size w1 u5 (ks ++ k2) := own_keepg own fun g hg hlt' => hg1.block g hlt' (fun e => hne (by rw [hg, e]))
            have hs1 := hg1.size
            have B1 : Hid (Below W2.heap.size W2 w1) := Lib.hid (B.out.grown hg1 B.out.size (fun g hg => by simp only [Option.some.injEq] at hg; omega))
            have HC3 := Lib.hid (HC2.out.step hlx hat)
            have Hlm := Lib.hid hrg.left_eq
            have hkl : (ks ++ k2).length ≤ 1000 * k + 1000 := by have h1 := HP.out.2; rw [List.length_append]; omega
            clear B own hrg hlx hat HC2
            go_wp2_with (at_builtin; refine str_append (B := W2.heap.size) (p := x) rfl (.tmp 24) (.tmp 26) rfl rfl w1.heap.size rfl (own1.keep (bnew (Below.refl _ _))) (Bx.new _ _ _) (by omega) (by simp; omega) ?_)
            intro v' w2 own2 ap
            have hrg2 := own_rangesG (hrg1.alloc (.cells #[.string x] 9)) ap (fun g hg => ⟨by have := (OwnS.base own1 g hg).1; omega, fun e => hne (by rw [hg, e])⟩)
            have B2 : Hid (Below W2.heap.size W2 w2) := Lib.hid (ap.below (B1.out.alloc B1.out.size _) (Nat.le_refl _) (by have := B1.out.size; simp; omega) (fun g hg => (OwnS.base own1 g hg).1))
            have hs2 : r + 1 ≤ w2.heap.size := by have := ap.size; simp at this; omega
            have hne2 : v'.ownBlock ≠ some r := by
              obtain ⟨g', cap', n', e1, e2, _, _⟩ := ap.at_
              subst e1
              intro e3
              have e4 : g' = r := by simpa [Value.ownBlock] using e3
              subst e4
              rcases e2 with e2 | e2
              · exact hne e2
              · simp at e2; omega
            clear own1 B1 hrg1 ap hen hg1
            go_wp2_with fail
            go_roundw
            case rel => exact ⟨_, cnt1, k2 ++ [x], hrg2, by first | exact own2 | (rw [← List.append_assoc]; exact own2), Lib.hid (by rw [List.map_append]; exact HC3.out), by rw [List.length_append, List.length_singleton]; omega, B2, hs2, hne2⟩
            case measure => rw [hrg2.left_eq, Hlm.out]; exact hlt1
      · obtain rfl : n = k := by omega
        have hall : Hid (srtS ks = srtS (((b0, A0) :: ms).flatMap nmA)) := Lib.hid (srtS_eq (by
          have h1 := HB.out.2.1
          rw [← HN.out, List.take_length] at h1
          exact h1))
        have B := HO.out.2.trans (HB.out.1.mono HO.out.2.size)
        have HB4 := Lib.hid B
        have hsz := HO.out.2.size
        have hkl := HB.out.2.2
        rcases own.form with ⟨rfl, rfl⟩ | ⟨g, cap, rfl, hg, hgl, hcap, _⟩
        · have hA0 : allS (((b0, A0) :: ms).flatMap nmA) = [] := by unfold allS; rw [← hall.out]; exact cmp_nil
          have HA0 := Lib.hid hA0
          clear hA0 B
          go_wp2_with fail
          refine (Any.slices_Sort_string_none Tryz.lays190 none 0 _).mono ?_
          rintro e w' ⟨rfl, rfl⟩
          go_wp2_with fail
          refine (Tryz.slices_Compact_string_empty none 0 _).mono ?_
          rintro e w' ⟨rfl, rfl⟩
          go_wp2_with fail
          go_ret
          exact ⟨_, rfl, by rw [HA0.out]; exact World.ownsRow_nil _ _ _ _, HB4.out⟩
        · have hc := sort_reels own (by omega)
          clear B own
          go_wp2_with fail
          refine hc.mono ?_
          rintro e w3 ⟨rfl, own3, ho3⟩
          have B3 := Lib.hid (oth_below2 HB4.out ho3 (by omega) (Nat.le_refl _))
          have hln : (srtS ks).length = ks.length := srtS_len ks
          have hc2 := compact_texts own3 (by omega)
          clear hc own3 ho3
          go_wp2_with fail
          refine hc2.mono ?_
          rintro e w4 ⟨rfl, own4, ho4⟩
          have B4 := Lib.hid (oth_below2 B3.out ho4 (by omega) (Nat.le_refl _))
          have HO4 := Lib.hid own4
          clear hc2 own4 ho4
          go_wp2_with fail
          go_ret
          refine ⟨_, rfl, ?_, B4.out⟩
          unfold allS
          rw [← hall.out]
          exact own_monoS HO4.out hsz
  · have HG := Lib.hid hg
    obtain ⟨l, hl'⟩ : ∃ l, ms.length = l := ⟨_, rfl⟩
    have HL := Lib.hid hl'
    rw [hl'] at hl ⊢
    clear hg hl'
    go_enter Tryz.func42, Tryz.ntmps42
    go_upto_region 3 with (at_builtin; go_loud (refine wpList_append_own _ rfl (.tmp 10) (.tmp 11) 140 rfl W.heap.size 93 i0 (.map none) 1 8 Tryz.underlying140 hi hz0 hz1 hz2 rfl (by decide) _ 1 [.map (some b0)] rfl (own_one W 93 (.map (some b0))) ⟨g, 0, none⟩ l c (ms.map mvA) rfl ?qa1 ?qa2 ?qa3 ?qa4 ?qa5 ?qa6 ?_))
    case qa1 => rw [List.length_map, HL.out, Nat.mul_one]
    case qa2 =>
      intro j u hj
      rw [List.getElem?_map] at hj
      cases hm : ms[j]? with
      | none => rw [hm] at hj; cases hj
      | some m =>
        rw [hm] at hj
        have hj : mvA m = u := by simpa using hj
        rw [← hj, add_none, Nat.zero_add]
        exact Lib.cell?_alloc_some _ (HG.out j m hm)
    case qa3 =>
      intro u hu
      obtain ⟨m, _, rfl⟩ := List.mem_map.1 hu
      rfl
    case qa4 => unfold maxLen; omega
    case qa5 => omega
    case qa6 => simp
    intro v12 W2 hown12 hgrow12 hnil12
    have HO : Hid (W2.ownsRow W.heap.size 93 1 v12 n vv ∧ Below W.heap.size W W2) := Lib.hid (by
      have e1 : vv = [.map (some b0)] ++ ms.map mvA := by rw [hvv.out, List.map_cons, hb0.out]; rfl
      have e2 : n = 1 + l := by rw [← HN.out, List.length_cons, HL.out]; omega
      rw [e1, e2]
      refine ⟨hown12, ((Below.refl _ W).alloc (Nat.le_refl _) _).grown hgrow12 (by simp) (by intro k hk; simp only [Value.ownBlock, Option.some.injEq] at hk; omega)⟩)
    clear hown12 hgrow12 hnil12
    obtain ⟨g12, c12, hv12, hg12, hgl12, hnc12, hcel⟩ := own_open HO.out.1 (by omega)
    subst hv12
    have HC := Lib.hid (And.intro hg12 (And.intro hgl12 hcel))
    clear hg12 hgl12 hcel
    go_wp2_with fail
    go_loopw [5, 14] (fun v i wr => ∃ (k : Nat) (ks : List ByteArray), k ≤ n ∧ i = .int .i64 (k : Int) ∧ OwnS W2.heap.size wr v ks ∧ Hid (Below W2.heap.size W2 wr ∧ ks.Perm ((((b0, A0) :: ms).take k).flatMap nmA) ∧ ks.length ≤ 1000 * k)) (fun _ i _ => n - (RowKit.intOf i).toNat)
    case atStart => exact ⟨0, [], Nat.zero_le _, rfl, World.ownsRow_nil _ _ _ _, Lib.hid ⟨Below.refl _ _, .refl _, Nat.zero_le _⟩⟩
    case round =>
      obtain ⟨k, ks, hk, rfl, own, HB⟩ := hrel
      by_cases hlt : k < n
      · obtain ⟨m, hmk⟩ : ∃ m, ((b0, A0) :: ms)[k]? = some m := ⟨_, List.getElem?_eq_getElem (by rw [HN.out]; exact hlt)⟩
        have hmm := List.mem_of_getElem? hmk
        have hmap0 := HM.out.1 m hmm
        have hal := HM.out.2 m hmm
        have c0 : wr.cell? ⟨g12, k, none⟩ = some (.map (some m.1)) := by
          have h1 := HC.out.2.2 k (.map (some m.1)) (by rw [hvv.out, List.getElem?_map, hmk]; rfl)
          exact cell_belowF HB.out.1 h1
        have hd1 : decide ((k : Int) < (n : Int)) = true := decide_eq_true (by omega)
        have hkn : (k : Int) < (n : Int) := by omega
        have HK := Lib.hid hmk
        have hblt : m.1 < W.heap.size := (HM.out.1 m hmm).lt
        have hWW := HO.out.2.size
        have hW2r := HB.out.1.size
        clear hmk hmm
        obtain ⟨b, A⟩ := m
        simp only at hmap0 hal c0 hblt
        obtain ⟨hnd, hsz, es, hownW, hperm⟩ := hmap0
        have Hperm := Lib.hid hperm
        have Hown := Lib.hid hownW
        have hown : wr.ownsMap (H := Value) Tryz.prog 9 heldE b A.length (.map es) := by
          obtain ⟨es', clock, g1, g2, g3, g4⟩ := hownW
          exact ⟨es', clock, ((HB.out.1.block b (by omega)).trans (HO.out.2.block b hblt)).trans g1, g2, g3, g4⟩
        clear hownW
        have Hcnt : Hid (Maps.size (DataW.map es) ≤ A.length) := Lib.hid (by
          have := hperm.length_eq
          rw [List.length_map] at this
          exact Nat.le_of_eq this)
        clear hnd hsz hperm
        go_wp2_with (at_range; refine wpList_range_own _ rfl _ 93 rfl 9 22 strK Tryz.underlying93 _ b A.length _ rfl hown ?_; intro w0 hrg0 hg0 hs0)
        go_frame
        clear c0 hd1 hkn hown
        obtain ⟨r, hr⟩ : ∃ r, wr.heap.size = r := ⟨_, rfl⟩
        rw [hr] at hrg0 hs0 hW2r ⊢
        have own0 : OwnS W2.heap.size w0 u5 ks := own.keep (below_of_grown hg0)
        have hne0 : u5.ownBlock ≠ some r := fun e => by have := (OwnS.base own r e).2; omega
        have B0 : Hid (Below W2.heap.size W2 w0) := Lib.hid (HB.out.1.trans ((below_of_grown hg0).mono HB.out.1.size))
        have HP := Lib.hid HB.out.2
        clear own HB hg0 hr
        clear wr
        go_loopw [5] (fun v wr => ∃ (left : Lit → Bool) (cnt : Nat) (k2 : List ByteArray), wr.ranges Tryz.prog 9 heldE b r A.length (.map es) left cnt ∧ OwnS W2.heap.size wr v (ks ++ k2) ∧ Hid (Collected (.map es) left (k2.map fun x => x.data.toList)) ∧ k2.length + cnt ≤ A.length ∧ Hid (Below W2.heap.size W2 wr) ∧ r + 1 ≤ wr.heap.size ∧ v.ownBlock ≠ some r) (fun _ wr => wr.rangeLeft b r)
        case atStart => exact ⟨_, _, [], hrg0, by rw [List.append_nil]; exact own0, Lib.hid (Collected.start _), by have := Hcnt.out; rw [List.length_nil]; omega, B0, by omega, hne0⟩
        case round =>
          obtain ⟨left, cnt, k2, hrg, own, HC2, hle, B, hsz, hne⟩ := hrel
          clear hrg0 hs0
          go_wp2_with (at_next; refine next_sg _ rfl _ rfl b r A.length _ _ _ rfl hrg ?_ ?_)
          · intro hl0
            have hks := (HC2.out.perm Hown.out strK Tryz.underlying9 hl0).trans (strKeys_permG Hperm.out)
            have hp2 : k2.Perm (A.map (·.1)) := unL hks (T := A.map (·.1)) (by rw [List.map_map]; rfl)
            have HJ : Hid (Below W2.heap.size W2 wr ∧ (ks ++ k2).Perm ((((b0, A0) :: ms).take (k + 1)).flatMap nmA) ∧ (ks ++ k2).length ≤ 1000 * (k + 1)) := Lib.hid ⟨B.out, by
              rw [List.take_add_one, HK.out, List.flatMap_append]
              exact HP.out.1.append (by simpa [nmA] using hp2), by
              have h1 := HP.out.2
              have h2 := hp2.length_eq
              rw [List.length_map] at h2
              rw [List.length_append]; omega⟩
            clear hrg hks hp2 hl0
            go_wp2_with fail
            go_roundw
            case rel => exact ⟨k + 1, ks ++ k2, by omega, by go_num, own, HJ⟩
            case measure => simp [RowKit.intOf]; omega
          · intro x cx w1 cnt1 hx hlx hat hrg1 hlt1 hg1 hen
            have own1 : OwnS W2.heap.size w1 u5 (ks ++ k2) := own_keepg own fun g hg hlt' => hg1.block g hlt' (fun e => hne (by rw [hg, e]))
            have hs1 := hg1.size
            have B1 : Hid (Below W2.heap.size W2 w1) := Lib.hid (B.out.grown hg1 B.out.size (fun g hg => by simp only [Option.some.injEq] at hg; omega))
            have HC3 := Lib.hid (HC2.out.step hlx hat)
            have Hlm := Lib.hid hrg.left_eq
            have hkl : (ks ++ k2).length ≤ 1000 * k + 1000 := by have h1 := HP.out.2; rw [List.length_append]; omega
            clear B own hrg hlx hat HC2
            go_wp2_with (at_builtin; refine str_append (B := W2.heap.size) (p := x) rfl (.tmp 24) (.tmp 26) rfl rfl w1.heap.size rfl (own1.keep (bnew (Below.refl _ _))) (Bx.new _ _ _) (by omega) (by simp; omega) ?_)
            intro v' w2 own2 ap
            have hrg2 := own_rangesG (hrg1.alloc (.cells #[.string x] 9)) ap (fun g hg => ⟨by have := (OwnS.base own1 g hg).1; omega, fun e => hne (by rw [hg, e])⟩)
            have B2 : Hid (Below W2.heap.size W2 w2) := Lib.hid (ap.below (B1.out.alloc B1.out.size _) (Nat.le_refl _) (by have := B1.out.size; simp; omega) (fun g hg => (OwnS.base own1 g hg).1))
            have hs2 : r + 1 ≤ w2.heap.size := by have := ap.size; simp at this; omega
            have hne2 : v'.ownBlock ≠ some r := by
              obtain ⟨g', cap', n', e1, e2, _, _⟩ := ap.at_
              subst e1
              intro e3
              have e4 : g' = r := by simpa [Value.ownBlock] using e3
              subst e4
              rcases e2 with e2 | e2
              · exact hne e2
              · simp at e2; omega
            clear own1 B1 hrg1 ap hen hg1
            go_wp2_with fail
            go_roundw
            case rel => exact ⟨_, cnt1, k2 ++ [x], hrg2, by first | exact own2 | (rw [← List.append_assoc]; exact own2), Lib.hid (by rw [List.map_append]; exact HC3.out), by rw [List.length_append, List.length_singleton]; omega, B2, hs2, hne2⟩
            case measure => rw [hrg2.left_eq, Hlm.out]; exact hlt1
      · obtain rfl : n = k := by omega
        have hall : Hid (srtS ks = srtS (((b0, A0) :: ms).flatMap nmA)) := Lib.hid (srtS_eq (by
          have h1 := HB.out.2.1
          rw [← HN.out, List.take_length] at h1
          exact h1))
        have B := HO.out.2.trans (HB.out.1.mono HO.out.2.size)
        have HB4 := Lib.hid B
        have hsz := HO.out.2.size
        have hkl := HB.out.2.2
        rcases own.form with ⟨rfl, rfl⟩ | ⟨g, cap, rfl, hg, hgl, hcap, _⟩
        · have hA0 : allS (((b0, A0) :: ms).flatMap nmA) = [] := by unfold allS; rw [← hall.out]; exact cmp_nil
          have HA0 := Lib.hid hA0
          clear hA0 B
          go_wp2_with fail
          refine (Any.slices_Sort_string_none Tryz.lays190 none 0 _).mono ?_
          rintro e w' ⟨rfl, rfl⟩
          go_wp2_with fail
          refine (Tryz.slices_Compact_string_empty none 0 _).mono ?_
          rintro e w' ⟨rfl, rfl⟩
          go_wp2_with fail
          go_ret
          exact ⟨_, rfl, by rw [HA0.out]; exact World.ownsRow_nil _ _ _ _, HB4.out⟩
        · have hc := sort_reels own (by omega)
          clear B own
          go_wp2_with fail
          refine hc.mono ?_
          rintro e w3 ⟨rfl, own3, ho3⟩
          have B3 := Lib.hid (oth_below2 HB4.out ho3 (by omega) (Nat.le_refl _))
          have hln : (srtS ks).length = ks.length := srtS_len ks
          have hc2 := compact_texts own3 (by omega)
          clear hc own3 ho3
          go_wp2_with fail
          refine hc2.mono ?_
          rintro e w4 ⟨rfl, own4, ho4⟩
          have B4 := Lib.hid (oth_below2 B3.out ho4 (by omega) (Nat.le_refl _))
          have HO4 := Lib.hid own4
          clear hc2 own4 ho4
          go_wp2_with fail
          go_ret
          refine ⟨_, rfl, ?_, B4.out⟩
          unfold allS
          rw [← hall.out]
          exact own_monoS HO4.out hsz
end Go.Proofs.YticekgnmiaidjaaGreatDoor
