/- Looks: conform.checkGrades, CheckLook, dyeref1.LookError. (printed by gen_lke.py) -/
import Derived.Test.YticekgnmiaidjaaGreatDoorNuA
import Derived.Test.YticekgnmiaidjaaGreatDoorNam
import Derived.Test.YticekgnmiaidjaaGreatDoorNuN
namespace Go.Proofs.YticekgnmiaidjaaGreatDoor
open Go.RowKit Go.Lib

/-- A row of a look: the shot's name, its grades. -/
abbrev Rw := ByteArray × List Gd
def RwAt (w : World) (b o : Nat) (rows : List Rw) : Prop := ∀ (k : Nat) (r : Rw), rows[k]? = some r → w.cell? ⟨b, o + k * 2, none⟩ = some (.string r.1) ∧ ∃ gv, w.cell? ⟨b, o + k * 2 + 1, none⟩ = some gv ∧ SlG w gv r.2
/-- The slice v has the rows of a look. -/
def SlL (w : World) (v : Value) (rows : List Rw) : Prop := ∃ a c, v = .slice a rows.length c ∧ rows.length ≤ c ∧ c ≤ maxLen ∧ (rows = [] ∨ ∃ b o, a = some ⟨b, o, none⟩ ∧ b < w.heap.size ∧ RwAt w b o rows)
theorem SlL.keep {w w' : World} {v : Value} {rows : List Rw} (h : SlL w v rows) (hb : Below w.heap.size w w') : SlL w' v rows := by
  obtain ⟨a, c, h1, h2, h3, h4⟩ := h
  refine ⟨a, c, h1, h2, h3, ?_⟩
  rcases h4 with h4 | ⟨b, o, e, hl, hR⟩
  · exact .inl h4
  · refine .inr ⟨b, o, e, Nat.lt_of_lt_of_le hl hb.size, fun k r hr => ?_⟩
    obtain ⟨q1, gv, q2, q3⟩ := hR k r hr
    exact ⟨cell_belowF hb q1, gv, cell_belowF hb q2, q3.keep hb⟩
/-- Go's <= on texts, as the walk spells it. -/
def leS (a b : ByteArray) : Bool := Op.bytesLess a.toList b.toList || a.toList == b.toList
def firstNZ : List Int → Int
  | [] => 0
  | e :: es => if e = 0 then firstNZ es else e
theorem firstNZ_hit : ∀ {es : List Int} {k : Nat} {x : Int} (hk : k < es.length), es[k] = x → (∀ (j : Nat) (hj : j < k), es[j]'(Nat.lt_trans hj hk) = 0) → x ≠ 0 → firstNZ es = x
  | [], k, x, hk, _, _, _ => by simp at hk
  | e :: es, 0, x, hk, h, _, hx => by
    have h : e = x := h
    subst h
    unfold firstNZ
    rw [if_neg hx]
  | e :: es, k + 1, x, hk, h, hb, hx => by
    have h0 : e = 0 := hb 0 (by omega)
    unfold firstNZ
    rw [if_pos h0]
    exact firstNZ_hit (k := k) (by simpa using hk) (by simpa using h) (fun j hj => by simpa using hb (j + 1) (by omega)) hx
theorem firstNZ_none : ∀ {es : List Int}, (∀ e ∈ es, e = 0) → firstNZ es = 0
  | [], _ => rfl
  | e :: es, h => by
    unfold firstNZ
    rw [if_pos (h e (List.mem_cons_self ..))]
    exact firstNZ_none fun x hx => h x (List.mem_cons_of_mem _ hx)
def rowErr (rows : List Rw) (i : Nat) : Int :=
  match rows[i]? with
  | none => 0
  | some r => if nameB r.1 = false then 6 else if 0 < i ∧ leS r.1 (rows.getD (i - 1) (⟨#[]⟩, [])).1 = true then 8 else gradesErr r.2
def lookErr (rows : List Rw) : Int := if 500 < rows.length then 4 else firstNZ ((List.range rows.length).map (rowErr rows))

set_option maxRecDepth 100000 in
set_option maxHeartbeats 4000000 in
theorem conform_checkGrades (v : Value) (gs : List Gd) (W : World) (h : SlG W v gs) : Calls Tryz.prog 52 #[v] W fun e w' => e = .returned (.int .i64 (gradesErr gs)) ∧ Below W.heap.size W w' := by
  obtain ⟨a, c, rfl, _, _, hrow⟩ := h
  obtain ⟨n, hn⟩ : ∃ n, gs.length = n := ⟨_, rfl⟩
  have HR := Lib.hid (And.intro hrow hn)
  rw [hn]
  clear hrow hn
  by_cases h64 : 64 < n
  · have hgt : decide ((n : Int) > 64) = true := decide_eq_true (by omega)
    go_enter Tryz.func52, Tryz.ntmps52
    go_wp2_with fail
    go_ret
    exact ⟨ret_int' (by unfold gradesErr; rw [HR.out.2, if_pos h64]), Below.refl _ _⟩
  · have hgt : decide ((n : Int) > 64) = false := decide_eq_false (by omega)
    have hgs : Hid (gradesErr gs = firstErr gs) := Lib.hid (by unfold gradesErr; rw [HR.out.2, if_neg h64])
    go_enter Tryz.func52, Tryz.ntmps52
    go_wp2_with fail
    go_loopw [11] (fun i wr => ∃ k : Nat, k ≤ n ∧ i = .int .i64 k ∧ Hid (Below W.heap.size W wr ∧ ∀ (j : Nat) (x : Gd), j < k → gs[j]? = some x → gradeErr x = 0)) (fun i _ => n - (RowKit.intOf i).toNat)
    case atStart => exact ⟨0, Nat.zero_le _, rfl, Lib.hid ⟨Below.refl _ _, fun j x hj => absurd hj (Nat.not_lt_zero _)⟩⟩
    case round =>
      obtain ⟨k, hk, rfl, HB⟩ := hrel
      clear hgt
      by_cases hlt : k < n
      · obtain ⟨g, hg⟩ : ∃ g, gs[k]? = some g := ⟨_, List.getElem?_eq_getElem (by have := HR.out.2; omega)⟩
        obtain ⟨b, o, ha, hbl, hG⟩ : ∃ b o, a = some ⟨b, o, none⟩ ∧ b < W.heap.size ∧ GlAt W b o gs := by
          rcases HR.out.1 with h0 | h0
          · rw [h0] at hg; simp at hg
          · exact h0
        subst ha
        obtain ⟨C, hC, hcl⟩ := hG k g hg
        have hcl' : ∀ (j : Nat) (v : Value), C[j]? = some v → wr.cell? ⟨b, o + k * 49 + j, none⟩ = some v := fun j v hj => by
          rw [HB.out.1.cell (p := ⟨b, o + k * 49 + j, none⟩) hbl]; exact hcl j v hj
        have hsz : (Tryz.prog.info? 46).map (·.size) = some C.size := by rw [hC.size]; exact grade_size
        have hst := fun w => grade_store w hC.size hC.one
        have hcs := hC.size
        have HS := Lib.hid (And.intro hC (And.intro hcl' (And.intro hsz (And.intro hg hbl))))
        have hd1 : decide ((k : Int) < (n : Int)) = true := decide_eq_true (by omega)
        clear hC hcl hcl' hsz hg hG hbl
        go_upto_region 5 with fail
        go_upto_region 6 with (refine wpList_load_cells rfl 46 (.tmp 13) rfl b (o + k * 49) rfl C HS.out.2.1 _ Tryz.underlying46 rfl HS.out.2.2.1 ?_)
        clear hst hcs
        refine name_world ?_
        intro W1 hW1
        have X5 : Hid (Bx W1 wr.heap.size 46 C) := Lib.hid (by rw [hW1]; exact Bx.new wr 46 C)
        have B1 : Hid (Below W.heap.size W W1) := Lib.hid (by rw [hW1]; exact bnew (ob := .cells C 46) HB.out.1)
        have GA := Lib.hid (GdAt.keep HS.out.1 B1.out)
        have hp := HB.out.1.size
        obtain ⟨p5, hp5⟩ : ∃ p, wr.heap.size = p := ⟨_, rfl⟩
        rw [hp5] at X5 hp ⊢
        clear hW1 hp5
        go_wp2_with (refine wpList_load_cells rfl 46 (.tmp 4) rfl p5 0 rfl C (fun j v hj => by rw [X5.out.all.1, Nat.zero_add]; exact hj) _ Tryz.underlying46 rfl HS.out.2.2.1 ?_)
        refine (grade_CheckGrade C g _ GA.out).mono ?_
        rintro e w2 ⟨rfl, hb2⟩
        have B2 := Lib.hid (bcall B1.out hb2)
        clear hb2
        obtain ⟨er, her⟩ : ∃ er, gradeErr g = er := ⟨_, rfl⟩
        have HE := Lib.hid her
        rw [her]
        clear her
        by_cases h0 : er = 0
        · subst h0
          go_wp2_with fail
          go_roundw
          case rel =>
            refine ⟨k + 1, by omega, by go_num, Lib.hid ⟨B2.out, fun j x hj hx => ?_⟩⟩
            by_cases hjk : j = k
            · subst hjk
              rw [HS.out.2.2.2.1] at hx
              rw [← Option.some.inj hx]; exact HE.out
            · exact HB.out.2 j x (by omega) hx
          case measure => simp [RowKit.intOf]; omega
        · have hne : (er == 0) = false := beq_eq_false_iff_ne.2 h0
          go_wp2_with fail
          go_ret
          exact ⟨ret_int' (by rw [hgs.out, firstErr_hit HS.out.2.2.2.1 HB.out.2 (by rw [HE.out]; exact h0), HE.out]), B2.out⟩
      · obtain rfl : k = n := by omega
        go_wp2_with fail
        go_ret
        exact ⟨ret_int' (by rw [hgs.out, firstErr_none fun j x hx => HB.out.2 j x (by rw [← HR.out.2]; exact (List.getElem?_eq_some_iff.1 hx).1) hx]), HB.out.1⟩

set_option maxRecDepth 100000 in
set_option maxHeartbeats 8000000 in
theorem conform_CheckLook (v : Value) (rows : List Rw) (W : World) (h : SlL W v rows) : Calls Tryz.prog 23 #[.agg #[v]] W fun e w' => e = .returned (.int .i64 (lookErr rows)) ∧ Below W.heap.size W w' := by
  have HS := Lib.hid h
  obtain ⟨a, c, rfl, _⟩ := h
  obtain ⟨n, hn⟩ : ∃ n, rows.length = n := ⟨_, rfl⟩
  have HN := Lib.hid hn
  rw [hn] at HS ⊢
  clear hn
  go_enter Tryz.func23, Tryz.ntmps23
  go_upto_region 1 with fail
  refine name_world ?_
  intro W1 hW1
  have X1 : Hid (Bx W1 W.heap.size 57 #[.slice a n c]) := Lib.hid (by rw [hW1]; exact Bx.new _ _ _)
  have HW : Hid (Below W.heap.size W W1) := Lib.hid (by rw [hW1]; exact bnew (Below.refl _ W))
  obtain ⟨p1, hp1⟩ : ∃ p, W.heap.size = p := ⟨_, rfl⟩
  have HP1 := Lib.hid hp1
  rw [hp1] at X1 ⊢
  clear hW1 hp1
  have q0 := X1.out.all.1 0
  simp only [List.getElem?_toArray, List.getElem?_cons_zero] at q0
  by_cases h5 : 500 < n
  · have hgt : decide ((n : Int) > 500) = true := decide_eq_true (by omega)
    go_wp2_with fail
    go_ret
    exact ⟨ret_int' (by unfold lookErr; rw [HN.out, if_pos h5]), HW.out⟩
  · have hgt : decide ((n : Int) > 500) = false := decide_eq_false (by omega)
    have HLE : Hid (lookErr rows = firstNZ ((List.range n).map (rowErr rows))) := Lib.hid (by unfold lookErr; rw [HN.out, if_neg h5])
    go_wp2_with fail
    clear q0 hgt
    go_loopw [13] (fun i wr => ∃ k : Nat, k ≤ n ∧ i = .int .i64 (k : Int) ∧ Hid (Below W1.heap.size W1 wr ∧ ∀ j, j < k → rowErr rows j = 0)) (fun i _ => n - (RowKit.intOf i).toNat)
    case atStart => exact ⟨0, Nat.zero_le _, rfl, Lib.hid ⟨Below.refl _ _, fun j hj => absurd hj (Nat.not_lt_zero _)⟩⟩
    case round =>
      obtain ⟨k, hk, rfl, HI⟩ := hrel
      by_cases hlt : k < n
      · obtain ⟨r, hr⟩ : ∃ r, rows[k]? = some r := ⟨_, List.getElem?_eq_getElem (by have := HN.out; omega)⟩
        obtain ⟨b, o, rfl, hb, hR⟩ : ∃ b o, a = some ⟨b, o, none⟩ ∧ b < W.heap.size ∧ RwAt W b o rows := by
          obtain ⟨a', c', he, _, _, h0 | h0⟩ := HS.out
          · rw [h0] at hr; simp at hr
          · cases he; exact h0
        have HWr : Hid (Below W.heap.size W wr) := Lib.hid (HW.out.trans (HI.out.1.mono HW.out.size))
        obtain ⟨h1, gv, h2, h3⟩ := hR k r hr
        have c0 := cell_belowF HWr.out h1
        have c1 := cell_belowF HWr.out h2
        have h3' := h3
        obtain ⟨ag, cg, hgv, _⟩ := h3'
        obtain ⟨ng, hng⟩ : ∃ n, r.2.length = n := ⟨_, rfl⟩
        rw [hng] at hgv
        subst hgv
        have q0 := (X1.out.keep HI.out.1).all.1 0
        simp only [List.getElem?_toArray, List.getElem?_cons_zero] at q0
        obtain ⟨nm, hnm⟩ : ∃ s, r.1 = s := ⟨_, rfl⟩
        rw [hnm] at c0
        have HR := Lib.hid (And.intro hr (And.intro h3 (And.intro hnm hR)))
        have hd1 : decide ((k : Int) < (n : Int)) = true := decide_eq_true (by omega)
        obtain ⟨re, hre⟩ : ∃ e, rowErr rows k = e := ⟨_, rfl⟩
        have hre2 := hre
        unfold rowErr at hre2
        rw [hr] at hre2
        simp only [hnm] at hre2
        have HRE := Lib.hid (And.intro hre hre2)
        have hklen : k < rows.length := by have := HN.out; omega
        clear h1 h2 h3 hr hre hre2 hnm hng
        go_upto_region 6 with fail
        refine name_world ?_
        intro W3 hW3
        have X4 : Hid (Bx W3 wr.heap.size 89 #[.string nm, .slice ag ng cg]) := Lib.hid (by rw [hW3]; exact Bx.new _ _ _)
        have B3 : Hid (Below wr.heap.size wr W3) := Lib.hid (by rw [hW3]; exact bnew (Below.refl _ _))
        obtain ⟨p4, hp4⟩ : ∃ p, wr.heap.size = p := ⟨_, rfl⟩
        rw [hp4] at X4 ⊢
        clear hW3 hp4 c0 c1 q0
        have r0 := X4.out.all.1 0
        simp only [List.getElem?_toArray, List.getElem?_cons_zero] at r0
        go_wp2_with fail
        refine (conform_isName nm _).mono ?_
        rintro e w5 ⟨rfl, hb5⟩
        have B5 : Hid (Below wr.heap.size wr w5) := Lib.hid (bcall B3.out hb5)
        have X5 := Lib.hid (X4.out.keep hb5)
        clear hb5 r0
        have hend : ∀ w9, Below wr.heap.size wr w9 → re ≠ 0 → lookErr rows = re := fun w9 _ h0 => by
          rw [HLE.out]
          refine firstNZ_hit (k := k) (by rw [List.length_map, List.length_range]; exact hlt) (by simp [hlt, HRE.out.1]) (fun j hj => ?_) h0
          simpa [show j < n by omega] using HI.out.2 j hj
        have HEND := Lib.hid hend
        clear hend
        obtain ⟨nb, hnb⟩ : ∃ x, nameB nm = x := ⟨_, rfl⟩
        have HNB := Lib.hid hnb
        rw [hnb]
        clear hnb
        cases nb
        · have HV : Hid (re = 6) := Lib.hid (by rw [← HRE.out.2, HNB.out, if_pos rfl])
          go_wp2_with fail
          go_ret
          exact ⟨ret_int' (by rw [HEND.out _ B5.out (by rw [HV.out]; decide), HV.out]), HW.out.trans ((HI.out.1.trans (B5.out.mono HI.out.1.size)).mono HW.out.size)⟩
        · have r0 := X5.out.all.1 0
          have r1 := X5.out.all.1 1
          have q0 := (X1.out.keep (HI.out.1.trans (B5.out.mono HI.out.1.size))).all.1 0
          simp only [List.getElem?_toArray, List.getElem?_cons_zero, List.getElem?_cons_succ] at r0 r1 q0
          have HG5 : Hid (Below W.heap.size W w5) := Lib.hid (HWr.out.trans (B5.out.mono HWr.out.size))
          by_cases hk0 : k = 0
          · subst hk0
            rw [show ((0 : Nat) : Int) = 0 from rfl]
            have HV : Hid (re = gradesErr r.2) := Lib.hid (by rw [← HRE.out.2, HNB.out, if_neg (by decide), if_neg (by simp)])
            go_wp2_with fail
            go_quiet (fail)
            go_upto_region 10 with fail
            refine name_world ?_
            intro W6 hW6
            have B6 : Hid (Below wr.heap.size wr W6) := Lib.hid (by rw [hW6]; repeat (refine below_drewN ?_ _)
                                                                    exact B5.out)
            have s1 : W6.cell? ⟨p4, 1, none⟩ = some (.slice ag ng cg) := by rw [hW6]; exact r1
            clear hW6 r0 r1 q0
            have HG6 : Hid (Below W.heap.size W W6) := Lib.hid (HWr.out.trans (B6.out.mono HWr.out.size))
            go_wp2_with fail
            refine (conform_checkGrades _ r.2 _ (HR.out.2.1.keep HG6.out)).mono ?_
            rintro e w7 ⟨rfl, hb7⟩
            rw [← HV.out]
            have B7 : Hid (Below wr.heap.size wr w7) := Lib.hid (bcall B6.out hb7)
            clear hb7
            by_cases h0 : re = 0
            · have H00 := Lib.hid h0
              rw [h0]
              go_wp2_with fail
              go_roundw
              case rel =>
                refine ⟨0 + 1, by omega, by go_num, Lib.hid ⟨HI.out.1.trans (B7.out.mono HI.out.1.size), fun j hj => ?_⟩⟩
                by_cases hjk : j = 0
                · rw [hjk, HRE.out.1, H00.out]
                · exact HI.out.2 j (by omega)
              case measure => simp [RowKit.intOf]; omega
            · have hne : (re == 0) = false := beq_eq_false_iff_ne.2 h0
              go_wp2_with fail
              go_ret
              exact ⟨ret_int' (HEND.out _ B7.out h0).symm, HWr.out.trans (B7.out.mono HWr.out.size)⟩
          · obtain ⟨r2, hr2⟩ : ∃ r2, rows[k - 1]? = some r2 := ⟨_, List.getElem?_eq_getElem (by omega)⟩
            obtain ⟨h1, _⟩ := HR.out.2.2.2 (k - 1) r2 hr2
            have c2 := cell_belowF HG5.out h1
            obtain ⟨nm2, hnm2⟩ : ∃ s, r2.1 = s := ⟨_, rfl⟩
            rw [hnm2] at c2
            have hgd : (rows.getD (k - 1) (⟨#[]⟩, [])).1 = nm2 := by rw [List.getD_eq_getElem?_getD, hr2]; exact hnm2
            have hk1 : decide ((k : Int) > 0) = true := decide_eq_true (by omega)
            have hk1b : decide (0 < k) = true := decide_eq_true (by omega)
            have hkm : ((k : Int) - 1) = ((k - 1 : Nat) : Int) := by omega
            have hw64 : wrap64 ((k : Int) - 1) = ((k - 1 : Nat) : Int) := by rw [IntWalk.wrap64_in _ ⟨by omega, by omega⟩]; omega
            have hk1n : ((k - 1 : Nat) : Int) < (n : Int) := by omega
            have HGD := Lib.hid hgd
            clear h1 hr2 hnm2 hgd
            cases hle : leS nm nm2
            · have HV : Hid (re = gradesErr r.2) := Lib.hid (by rw [← HRE.out.2, HNB.out, if_neg (by decide), HGD.out, hle, if_neg (by simp)])
              have hle' : (Op.bytesLess nm.toList nm2.toList || nm.toList == nm2.toList) = false := hle
              clear hle
              generalize hkk : (k - 1 : Nat) = k1 at *
              go_wp2_with fail
              go_quiet (fail)
              go_upto_region 10 with fail
              refine name_world ?_
              intro W6 hW6
              have B6 : Hid (Below wr.heap.size wr W6) := Lib.hid (by rw [hW6]; repeat (refine below_drewN ?_ _)
                                                                      exact B5.out)
              have s1 : W6.cell? ⟨p4, 1, none⟩ = some (.slice ag ng cg) := by rw [hW6]; exact r1
              clear hW6 r0 r1 q0
              have HG6 : Hid (Below W.heap.size W W6) := Lib.hid (HWr.out.trans (B6.out.mono HWr.out.size))
              go_wp2_with fail
              refine (conform_checkGrades _ r.2 _ (HR.out.2.1.keep HG6.out)).mono ?_
              rintro e w7 ⟨rfl, hb7⟩
              rw [← HV.out]
              have B7 : Hid (Below wr.heap.size wr w7) := Lib.hid (bcall B6.out hb7)
              clear hb7
              by_cases h0 : re = 0
              · have H00 := Lib.hid h0
                rw [h0]
                go_wp2_with fail
                go_roundw
                case rel =>
                  refine ⟨k + 1, by omega, by go_num, Lib.hid ⟨HI.out.1.trans (B7.out.mono HI.out.1.size), fun j hj => ?_⟩⟩
                  by_cases hjk : j = k
                  · rw [hjk, HRE.out.1, H00.out]
                  · exact HI.out.2 j (by omega)
                case measure => simp [RowKit.intOf]; omega
              · have hne : (re == 0) = false := beq_eq_false_iff_ne.2 h0
                go_wp2_with fail
                go_ret
                exact ⟨ret_int' (HEND.out _ B7.out h0).symm, HWr.out.trans (B7.out.mono HWr.out.size)⟩
            · have HV : Hid (re = 8) := Lib.hid (by rw [← HRE.out.2, HNB.out, if_neg (by decide), HGD.out, hle, if_pos ⟨by omega, rfl⟩])
              have hle' : (Op.bytesLess nm.toList nm2.toList || nm.toList == nm2.toList) = true := hle
              clear hle
              generalize hkk : (k - 1 : Nat) = k1 at *
              go_wp2_with fail
              go_quiet (fail)
              go_wp2_with fail
              go_ret
              exact ⟨ret_int' (by rw [HEND.out _ B5.out (by rw [HV.out]; decide), HV.out]), by ((repeat (refine below_drewN ?_ _)); exact HG5.out)⟩
      · obtain rfl : k = n := by omega
        go_wp2_with fail
        go_ret
        exact ⟨ret_int' (by rw [HLE.out, firstNZ_none (fun e he => by obtain ⟨j, hj, rfl⟩ := List.mem_map.1 he; exact HI.out.2 j (List.mem_range.1 hj))]), HW.out.trans (HI.out.1.mono HW.out.size)⟩

set_option maxRecDepth 100000 in
set_option maxHeartbeats 8000000 in
theorem ref_LookError (v : Value) (rows : List Rw) (W : World) (h : SlL W v rows) : Calls Tryz.prog 18 #[.agg #[v]] W fun e w' => e = .returned (.int .i64 (lookErr rows)) ∧ Below W.heap.size W w' := by
  have HS := Lib.hid h
  obtain ⟨a, c, rfl, _⟩ := h
  obtain ⟨n, hn⟩ : ∃ n, rows.length = n := ⟨_, rfl⟩
  have HN := Lib.hid hn
  rw [hn] at HS ⊢
  clear hn
  go_enter Tryz.func18, Tryz.ntmps18
  go_upto_region 1 with fail
  refine name_world ?_
  intro W1 hW1
  have X1 : Hid (Bx W1 W.heap.size 57 #[.slice a n c]) := Lib.hid (by rw [hW1]; exact Bx.new _ _ _)
  have HW : Hid (Below W.heap.size W W1) := Lib.hid (by rw [hW1]; exact bnew (Below.refl _ W))
  obtain ⟨p1, hp1⟩ : ∃ p, W.heap.size = p := ⟨_, rfl⟩
  have HP1 := Lib.hid hp1
  rw [hp1] at X1 ⊢
  clear hW1 hp1
  have q0 := X1.out.all.1 0
  simp only [List.getElem?_toArray, List.getElem?_cons_zero] at q0
  by_cases h5 : 500 < n
  · have hgt : decide ((n : Int) > 500) = true := decide_eq_true (by omega)
    go_wp2_with fail
    go_ret
    exact ⟨ret_int' (by unfold lookErr; rw [HN.out, if_pos h5]), HW.out⟩
  · have hgt : decide ((n : Int) > 500) = false := decide_eq_false (by omega)
    have HLE : Hid (lookErr rows = firstNZ ((List.range n).map (rowErr rows))) := Lib.hid (by unfold lookErr; rw [HN.out, if_neg h5])
    go_wp2_with fail
    clear q0 hgt
    go_loopw [13] (fun i wr => ∃ k : Nat, k ≤ n ∧ i = .int .i64 (k : Int) ∧ Hid (Below W1.heap.size W1 wr ∧ ∀ j, j < k → rowErr rows j = 0)) (fun i _ => n - (RowKit.intOf i).toNat)
    case atStart => exact ⟨0, Nat.zero_le _, rfl, Lib.hid ⟨Below.refl _ _, fun j hj => absurd hj (Nat.not_lt_zero _)⟩⟩
    case round =>
      obtain ⟨k, hk, rfl, HI⟩ := hrel
      by_cases hlt : k < n
      · obtain ⟨r, hr⟩ : ∃ r, rows[k]? = some r := ⟨_, List.getElem?_eq_getElem (by have := HN.out; omega)⟩
        obtain ⟨b, o, rfl, hb, hR⟩ : ∃ b o, a = some ⟨b, o, none⟩ ∧ b < W.heap.size ∧ RwAt W b o rows := by
          obtain ⟨a', c', he, _, _, h0 | h0⟩ := HS.out
          · rw [h0] at hr; simp at hr
          · cases he; exact h0
        have HWr : Hid (Below W.heap.size W wr) := Lib.hid (HW.out.trans (HI.out.1.mono HW.out.size))
        obtain ⟨h1, gv, h2, h3⟩ := hR k r hr
        have c0 := cell_belowF HWr.out h1
        have c1 := cell_belowF HWr.out h2
        have h3' := h3
        obtain ⟨ag, cg, hgv, _⟩ := h3'
        obtain ⟨ng, hng⟩ : ∃ n, r.2.length = n := ⟨_, rfl⟩
        rw [hng] at hgv
        subst hgv
        have q0 := (X1.out.keep HI.out.1).all.1 0
        simp only [List.getElem?_toArray, List.getElem?_cons_zero] at q0
        obtain ⟨nm, hnm⟩ : ∃ s, r.1 = s := ⟨_, rfl⟩
        rw [hnm] at c0
        have HR := Lib.hid (And.intro hr (And.intro h3 (And.intro hnm hR)))
        have hd1 : decide ((k : Int) < (n : Int)) = true := decide_eq_true (by omega)
        obtain ⟨re, hre⟩ : ∃ e, rowErr rows k = e := ⟨_, rfl⟩
        have hre2 := hre
        unfold rowErr at hre2
        rw [hr] at hre2
        simp only [hnm] at hre2
        have HRE := Lib.hid (And.intro hre hre2)
        have hklen : k < rows.length := by have := HN.out; omega
        clear h1 h2 h3 hr hre hre2 hnm hng
        go_upto_region 6 with fail
        refine name_world ?_
        intro W3 hW3
        have X4 : Hid (Bx W3 wr.heap.size 89 #[.string nm, .slice ag ng cg]) := Lib.hid (by rw [hW3]; exact Bx.new _ _ _)
        have B3 : Hid (Below wr.heap.size wr W3) := Lib.hid (by rw [hW3]; exact bnew (Below.refl _ _))
        obtain ⟨p4, hp4⟩ : ∃ p, wr.heap.size = p := ⟨_, rfl⟩
        rw [hp4] at X4 ⊢
        clear hW3 hp4 c0 c1 q0
        have r0 := X4.out.all.1 0
        simp only [List.getElem?_toArray, List.getElem?_cons_zero] at r0
        go_wp2_with fail
        refine (ref_IsName nm _).mono ?_
        rintro e w5 ⟨rfl, hb5⟩
        have B5 : Hid (Below wr.heap.size wr w5) := Lib.hid (bcall B3.out hb5)
        have X5 := Lib.hid (X4.out.keep hb5)
        clear hb5 r0
        have hend : ∀ w9, Below wr.heap.size wr w9 → re ≠ 0 → lookErr rows = re := fun w9 _ h0 => by
          rw [HLE.out]
          refine firstNZ_hit (k := k) (by rw [List.length_map, List.length_range]; exact hlt) (by simp [hlt, HRE.out.1]) (fun j hj => ?_) h0
          simpa [show j < n by omega] using HI.out.2 j hj
        have HEND := Lib.hid hend
        clear hend
        obtain ⟨nb, hnb⟩ : ∃ x, nameB nm = x := ⟨_, rfl⟩
        have HNB := Lib.hid hnb
        rw [hnb]
        clear hnb
        cases nb
        · have HV : Hid (re = 6) := Lib.hid (by rw [← HRE.out.2, HNB.out, if_pos rfl])
          go_wp2_with fail
          go_ret
          exact ⟨ret_int' (by rw [HEND.out _ B5.out (by rw [HV.out]; decide), HV.out]), HW.out.trans ((HI.out.1.trans (B5.out.mono HI.out.1.size)).mono HW.out.size)⟩
        · have r0 := X5.out.all.1 0
          have r1 := X5.out.all.1 1
          have q0 := (X1.out.keep (HI.out.1.trans (B5.out.mono HI.out.1.size))).all.1 0
          simp only [List.getElem?_toArray, List.getElem?_cons_zero, List.getElem?_cons_succ] at r0 r1 q0
          have HG5 : Hid (Below W.heap.size W w5) := Lib.hid (HWr.out.trans (B5.out.mono HWr.out.size))
          by_cases hk0 : k = 0
          · subst hk0
            rw [show ((0 : Nat) : Int) = 0 from rfl]
            have HV : Hid (re = gradesErr r.2) := Lib.hid (by rw [← HRE.out.2, HNB.out, if_neg (by decide), if_neg (by simp)])
            go_wp2_with fail
            go_quiet (fail)
            go_upto_region 10 with fail
            refine name_world ?_
            intro W6 hW6
            have B6 : Hid (Below wr.heap.size wr W6) := Lib.hid (by rw [hW6]; repeat (refine below_drewN ?_ _)
                                                                    exact B5.out)
            have s1 : W6.cell? ⟨p4, 1, none⟩ = some (.slice ag ng cg) := by rw [hW6]; exact r1
            clear hW6 r0 r1 q0
            have HG6 : Hid (Below W.heap.size W W6) := Lib.hid (HWr.out.trans (B6.out.mono HWr.out.size))
            go_wp2_with fail
            refine (ref_GradesError _ r.2 _ (HR.out.2.1.keep HG6.out)).mono ?_
            rintro e w7 ⟨rfl, hb7⟩
            rw [← HV.out]
            have B7 : Hid (Below wr.heap.size wr w7) := Lib.hid (bcall B6.out hb7)
            clear hb7
            by_cases h0 : re = 0
            · have H00 := Lib.hid h0
              rw [h0]
              go_wp2_with fail
              go_roundw
              case rel =>
                refine ⟨0 + 1, by omega, by go_num, Lib.hid ⟨HI.out.1.trans (B7.out.mono HI.out.1.size), fun j hj => ?_⟩⟩
                by_cases hjk : j = 0
                · rw [hjk, HRE.out.1, H00.out]
                · exact HI.out.2 j (by omega)
              case measure => simp [RowKit.intOf]; omega
            · have hne : (re == 0) = false := beq_eq_false_iff_ne.2 h0
              go_wp2_with fail
              go_ret
              exact ⟨ret_int' (HEND.out _ B7.out h0).symm, HWr.out.trans (B7.out.mono HWr.out.size)⟩
          · obtain ⟨r2, hr2⟩ : ∃ r2, rows[k - 1]? = some r2 := ⟨_, List.getElem?_eq_getElem (by omega)⟩
            obtain ⟨h1, _⟩ := HR.out.2.2.2 (k - 1) r2 hr2
            have c2 := cell_belowF HG5.out h1
            obtain ⟨nm2, hnm2⟩ : ∃ s, r2.1 = s := ⟨_, rfl⟩
            rw [hnm2] at c2
            have hgd : (rows.getD (k - 1) (⟨#[]⟩, [])).1 = nm2 := by rw [List.getD_eq_getElem?_getD, hr2]; exact hnm2
            have hk1 : decide ((k : Int) > 0) = true := decide_eq_true (by omega)
            have hk1b : decide (0 < k) = true := decide_eq_true (by omega)
            have hkm : ((k : Int) - 1) = ((k - 1 : Nat) : Int) := by omega
            have hw64 : wrap64 ((k : Int) - 1) = ((k - 1 : Nat) : Int) := by rw [IntWalk.wrap64_in _ ⟨by omega, by omega⟩]; omega
            have hk1n : ((k - 1 : Nat) : Int) < (n : Int) := by omega
            have HGD := Lib.hid hgd
            clear h1 hr2 hnm2 hgd
            cases hle : leS nm nm2
            · have HV : Hid (re = gradesErr r.2) := Lib.hid (by rw [← HRE.out.2, HNB.out, if_neg (by decide), HGD.out, hle, if_neg (by simp)])
              have hle' : (Op.bytesLess nm.toList nm2.toList || nm.toList == nm2.toList) = false := hle
              clear hle
              generalize hkk : (k - 1 : Nat) = k1 at *
              go_wp2_with fail
              go_quiet (fail)
              go_upto_region 10 with fail
              refine name_world ?_
              intro W6 hW6
              have B6 : Hid (Below wr.heap.size wr W6) := Lib.hid (by rw [hW6]; repeat (refine below_drewN ?_ _)
                                                                      exact B5.out)
              have s1 : W6.cell? ⟨p4, 1, none⟩ = some (.slice ag ng cg) := by rw [hW6]; exact r1
              clear hW6 r0 r1 q0
              have HG6 : Hid (Below W.heap.size W W6) := Lib.hid (HWr.out.trans (B6.out.mono HWr.out.size))
              go_wp2_with fail
              refine (ref_GradesError _ r.2 _ (HR.out.2.1.keep HG6.out)).mono ?_
              rintro e w7 ⟨rfl, hb7⟩
              rw [← HV.out]
              have B7 : Hid (Below wr.heap.size wr w7) := Lib.hid (bcall B6.out hb7)
              clear hb7
              by_cases h0 : re = 0
              · have H00 := Lib.hid h0
                rw [h0]
                go_wp2_with fail
                go_roundw
                case rel =>
                  refine ⟨k + 1, by omega, by go_num, Lib.hid ⟨HI.out.1.trans (B7.out.mono HI.out.1.size), fun j hj => ?_⟩⟩
                  by_cases hjk : j = k
                  · rw [hjk, HRE.out.1, H00.out]
                  · exact HI.out.2 j (by omega)
                case measure => simp [RowKit.intOf]; omega
              · have hne : (re == 0) = false := beq_eq_false_iff_ne.2 h0
                go_wp2_with fail
                go_ret
                exact ⟨ret_int' (HEND.out _ B7.out h0).symm, HWr.out.trans (B7.out.mono HWr.out.size)⟩
            · have HV : Hid (re = 8) := Lib.hid (by rw [← HRE.out.2, HNB.out, if_neg (by decide), HGD.out, hle, if_pos ⟨by omega, rfl⟩])
              have hle' : (Op.bytesLess nm.toList nm2.toList || nm.toList == nm2.toList) = true := hle
              clear hle
              generalize hkk : (k - 1 : Nat) = k1 at *
              go_wp2_with fail
              go_quiet (fail)
              go_wp2_with fail
              go_ret
              exact ⟨ret_int' (by rw [HEND.out _ B5.out (by rw [HV.out]; decide), HV.out]), by ((repeat (refine below_drewN ?_ _)); exact HG5.out)⟩
      · obtain rfl : k = n := by omega
        go_wp2_with fail
        go_ret
        exact ⟨ret_int' (by rw [HLE.out, firstNZ_none (fun e he => by obtain ⟨j, hj, rfl⟩ := List.mem_map.1 he; exact HI.out.2 j (List.mem_range.1 hj))]), HW.out.trans (HI.out.1.mono HW.out.size)⟩

end Go.Proofs.YticekgnmiaidjaaGreatDoor
