/- dyeref1.PrintGrades of right grades: linesG. (printed by gen_grs.py) -/
import Derived.Test.YticekgnmiaidjaaGreatDoorGrU
import Derived.Laws.EntriesVeiled
namespace Go.Proofs.YticekgnmiaidjaaGreatDoor
open Go.RowKit Go.Lib

theorem grade_size : (Tryz.prog.info? 46).map (·.size) = some 49 := by kernel_rfl
theorem grade_store (w : World) {C : Array Value} (hn : C.size = 49) (h1 : C.all (·.oneCell') = true) : (storeCells ⟨w.heap.size, 0, none⟩ C.toList 0).run Tryz.prog (w.alloc (.cells #[.int .i64 0, .float .f32 0, .float .f32 0, .float .f32 0, .float .f32 0, .float .f32 0, .float .f32 0, .float .f32 0, .float .f32 0, .float .f32 0, .float .f32 0, .float .f32 0, .float .f32 0, .float .f32 0, .float .f32 0, .float .f32 0, .float .f32 0, .float .f32 0, .float .f32 0, .float .f32 0, .int .i64 0, .slice none 0 0, .slice none 0 0, .int .i64 0, .slice none 0 0, .slice none 0 0, .int .i64 0, .slice none 0 0, .slice none 0 0, .int .i64 0, .slice none 0 0, .slice none 0 0, .float .f32 0, .float .f32 0, .float .f32 0, .float .f32 0, .float .f32 0, .float .f32 0, .float .f32 0, .float .f32 0, .float .f32 0, .float .f32 0, .float .f32 0, .float .f32 0, .float .f32 0, .float .f32 0, .int .i64 0, .int .i64 0, .int .i64 0] 46)) = .ok () (w.alloc (.cells C 46)) :=
  run_storeCells_new w _ _ C (by rw [hn]; exact grade_size) hn.symm h1
set_option maxRecDepth 100000 in
set_option maxHeartbeats 64000000 in
theorem ref_PrintGrades (gs : List Gd) (W : World) (E : EnvF W) (b o n c : Nat) (hb : b < W.heap.size) (hG : GlAt W b o gs) (hok : ∀ g ∈ gs, GdOk g) (hn : gs.length = n) (hn2 : n ≤ 1000) :
    Calls Tryz.prog 36 #[.slice (some ⟨b, o, none⟩) n c] W fun e w' => e = .returned (.string (linesG gs)) ∧ Below W.heap.size W w' := by
  have HE := Lib.hid E
  have HG := Lib.hid (And.intro hG (And.intro hok (And.intro hb (And.intro hn hn2))))
  clear E hG hok hn hb
  go_enter Tryz.func36, Tryz.ntmps36
  go_wp2_with fail
  go_loopw [3, 15] (fun s3 i wr => ∃ k : Nat, k ≤ n ∧ i = .int .i64 k ∧ s3 = .string (linesG (gs.take k)) ∧ Hid (Below W.heap.size W wr)) (fun _ i _ => n - (RowKit.intOf i).toNat)
  case atStart => exact ⟨0, Nat.zero_le _, rfl, rfl, Lib.hid (Below.refl _ _)⟩
  case round =>
    obtain ⟨k, hk, rfl, rfl, HB⟩ := hrel
    by_cases hlt : k < n
    · obtain ⟨g, hg⟩ : ∃ g, gs[k]? = some g := ⟨_, List.getElem?_eq_getElem (by have := HG.out.2.2.2.1; omega)⟩
      obtain ⟨C, hC, hcl⟩ := HG.out.1 k g hg
      have hgo := HG.out.2.1 g (List.mem_of_getElem? hg)
      have hcl' : ∀ (j : Nat) (v : Value), C[j]? = some v → wr.cell? ⟨b, o + k * 49 + j, none⟩ = some v := fun j v hj => by
        rw [HB.out.cell (p := ⟨b, o + k * 49 + j, none⟩) HG.out.2.2.1]; exact hcl j v hj
      have hsz : (Tryz.prog.info? 46).map (·.size) = some C.size := by rw [hC.size]; exact grade_size
      have hst := fun w => grade_store w hC.size hC.one
      have hl1 := linesG_len HG.out.1 HG.out.2.1 k
      have hnx := linesG_next hg
      obtain ⟨S, hS⟩ : ∃ S, linesG (gs.take k) = S := ⟨_, rfl⟩
      rw [hS] at hl1 hnx ⊢
      have HS := Lib.hid (And.intro hl1 (And.intro hnx (And.intro hC (And.intro hgo (And.intro hcl' hsz)))))
      have hd1 : decide ((k : Int) < (n : Int)) = true := decide_eq_true (by omega)
      have hcs := hC.size
      clear hl1 hnx hC hgo hS hcl hg hcl' hsz
      go_upto_region 4 with fail
      go_upto_region 5 with (refine wpList_load_cells rfl 46 (.tmp 17) rfl b (o + k * 49) rfl C HS.out.2.2.2.2.1 _ Tryz.underlying46 rfl HS.out.2.2.2.2.2 ?_)
      clear hst hcs hd1
      refine name_world ?_
      intro W1 hW1
      have hp := HB.out.size
      have X5 : Hid (Bx W1 wr.heap.size 46 C) := Lib.hid (by rw [hW1]; exact Bx.new wr 46 C)
      have B1 : Hid (Below W.heap.size W W1) := Lib.hid (by rw [hW1]; exact bnew (ob := .cells C 46) HB.out)
      have GA := Lib.hid (GdAt.keep HS.out.2.2.1 B1.out)
      obtain ⟨p5, hp5⟩ : ∃ p, wr.heap.size = p := ⟨_, rfl⟩
      rw [hp5] at hp X5 ⊢
      clear hW1 hp5
      obtain ⟨kn, hkn⟩ : ∃ kn : Nat, g.kind = (kn : Int) := ⟨g.kind.toNat, by have := HS.out.2.2.2.1.k1; omega⟩
      have hk17 : 1 ≤ kn ∧ kn ≤ 6 := by have h1 := HS.out.2.2.2.1.k1; have h2 := HS.out.2.2.2.1.k6; omega
      obtain ⟨t, ht⟩ : ∃ t, kindW.getD kn ⟨#[]⟩ = t := ⟨_, rfl⟩
      have hC0 : Hid (C[0]? = some (.int .i64 (kn : Int))) := Lib.hid (by rw [← hkn]; exact GA.out.kind)
      have hKt : Hid ((kindW.map Value.string).toArray[kn]? = some (.string t)) := Lib.hid (by
        rw [← ht]
        rcases (by omega : kn = 1 ∨ kn = 2 ∨ kn = 3 ∨ kn = 4 ∨ kn = 5 ∨ kn = 6) with rfl | rfl | rfl | rfl | rfl | rfl <;> rfl)
      have HK := Lib.hid (And.intro hkn (And.intro hk17 ht))
      clear hkn ht
      refine wp_region_inv 8 (fun qz u' => if qz = 0 then True else if qz = 3 then True else if qz = 5 then True else if qz = 6 then True else u' = [undef, (.pointer (some ⟨p5, 0, none⟩)), (.int .i64 (kn : Int)), undef, (.string t), undef, undef, undef].getD qz undef) (fun d vs w' => W5 W W1 t kn (d 0) (d 3) (d 5) (d 6) (d 7) (vs 0) (vs 3) (vs 5) (vs 6) w') (by kernel_rfl) (by kernel_rfl) ?_ ?_ ?_
      · intro vs
        exact W5.keep (w := W1) ⟨B1.out, Kp.refl _, fun e => (by cases e), fun e => (by cases e), fun e => (by cases e), fun e => (by cases e), fun e => (by cases e)⟩ ((Below.refl _ _).drew)
      · intro iq oq hi ho
        rcases (by omega : iq = 0 ∨ iq = 1 ∨ iq = 2 ∨ iq = 3 ∨ iq = 4 ∨ iq = 5 ∨ iq = 6 ∨ iq = 7) with rfl | rfl | rfl | rfl | rfl | rfl | rfl | rfl
        all_goals simp only [List.getElem?_cons_zero, List.getElem?_cons_succ, Option.some.injEq] at ho
        all_goals subst ho
        all_goals intro d a0 wx hI hag hdep hun
        · refine inv_call (f := 74) (args := #[]) (run_go_call Tryz.func74 (by kernel_rfl) (by kernel_rfl) _ _ _ _ _ _ _ _ _ _ (by simp [Act.eval])) (fun h => (by cases h)) ?_
          refine (ref_gradeWords wx).mono ?_
          rintro e w' ⟨rfl, hx, hb⟩
          exact ⟨_, rfl, trivial, (W5.keep hI hb).set0 hx⟩
        · have e0 := slot_eq (hag 5 rfl)
          exact inv_val (v := (.pointer (some ⟨p5, 0, none⟩))) (by simp [go_sem, e0]) (fun h => (by cases h)) rfl hI
        · have hq := (hI.kp.bx X5.out (by decide) (by decide)).all.1 0
          rw [hC0.out] at hq
          have e0 := slot_eq (hdep ⟨1, .data⟩ (by simp) rfl).1
          exact inv_val (v := (.int .i64 (kn : Int))) (by simp [go_sem, e0, hq]) (fun h => (by cases h)) rfl hI
        · obtain ⟨g0, hv0, hx0⟩ := hI.a0 (hdep ⟨0, .data⟩ (by simp) rfl).2
          have e1 := slot_eq hv0
          have e2 := slot_eq (hdep ⟨2, .data⟩ (by simp) rfl).1
          have z7 : (kn : Int) < 7 := by omega
          exact inv_val (v := .pointer (some ⟨g0, kn, none⟩)) (by simp [go_sem, e1, e2, z7]) (fun h => (by cases h)) trivial (W5.set3 hI hx0)
        · obtain ⟨g0, hv0, hx0⟩ := hI.a3 (hdep ⟨3, .data⟩ (by simp) rfl).2
          have e1 := slot_eq hv0
          have hq := hx0.all.1 kn
          rw [hKt.out] at hq
          exact inv_val (v := .string t) (by simp [go_sem, e1, hq]) (fun h => (by cases h)) rfl hI
        · have e1 := slot_eq (hdep ⟨4, .data⟩ (by simp) rfl).1
          exact inv_val (v := .slice (some ⟨wx.heap.size, 0, none⟩) 1 1) (w' := wx.alloc (.cells #[.string t] 9)) (by simp [go_sem, e1]) (fun h => (by cases h)) trivial (W5.set5 hI hun)
        · exact inv_val (v := .pointer (some ⟨wx.heap.size, 0, none⟩)) (w' := wx.alloc (.cells #[.slice none 0 0] 60)) (by simp [go_sem]) (fun h => (by cases h)) trivial (W5.set6 hI hun)
        · obtain ⟨g1, hv5, _⟩ := hI.a5 (hdep ⟨5, .data⟩ (by simp) rfl).2
          obtain ⟨p6, hv6, hp6, hx6⟩ := hI.a6 (hdep ⟨6, .data⟩ (by simp) rfl).2
          have e1 := slot_eq hv5
          have e2 := slot_eq hv6
          obtain ⟨qx, fx, _⟩ := hx6.all
          have hq := qx 0
          have hf := fx 0
          have hS := W5.set7 hI hv6 hv5 (hdep ⟨5, .data⟩ (by simp) rfl).2 (hdep ⟨6, .data⟩ (by simp) rfl).2 hun
          refine inv_skip (w' := wx.setCell ⟨p6, 0, none⟩ (.slice (some ⟨g1, 0, none⟩) 1 1)) ?_ rfl hS
          rw [hun, if_neg (by decide)] at hq
          clear hS hI hag hdep qx fx hx6
          simp only [List.getElem?_toArray, List.getElem?_cons_zero] at hq
          simp [go_sem, e1, e2, hq, hf]
      · intro d vs w6 hd hI hA
        have k1 : vs 1 = (.pointer (some ⟨p5, 0, none⟩)) := hA 1 (by omega)
        have k2 : vs 2 = (.int .i64 (kn : Int)) := hA 2 (by omega)
        have k4 : vs 4 = (.string t) := hA 4 (by omega)
        simp only [putAll, dstAt, List.getElem?_toArray, List.getElem?_cons_zero, List.getElem?_cons_succ, Option.bind_some, Option.bind_none, Act.put, List.setIfInBounds_toArray, List.set_cons_zero, List.set_cons_succ, k1, k2, k4]
        have hI6 : W5 W W1 t kn true true true true true (vs 0) (vs 3) (vs 5) (vs 6) w6 := by
          have h := hI
          simp only [hd 0 (by omega), hd 3 (by omega), hd 5 (by omega), hd 6 (by omega), hd 7 (by omega)] at h
          exact h
        obtain ⟨p, v, hv6, hp6, hws⟩ := hI6.ws
        rw [hv6]
        generalize vs 0 = u0 at *
        generalize vs 3 = u3 at *
        generalize vs 5 = u5b at *
        have HW := Lib.hid hws
        have HP := Lib.hid hp6
        clear hI hA hd k1 k2 k4 hI6 hv6 hws hp6
        have hx6 := HW.out.2.1.bx X5.out (by decide) (by decide)
        have hq := hx6.all.1
        have hq0 := hq 0
        rw [hC0.out] at hq0
        have HX := Lib.hid hx6
        clear hx6 hq
        rcases (by omega : kn = 1 ∨ kn = 2 ∨ kn = 3 ∨ kn = 4 ∨ kn = 5 ∨ kn = 6) with rfl | rfl | rfl | rfl | rfl | rfl
        · have HF : Hid (∀ g1 : Nat, flatS [⟨p5, 1, 3, [g.whe.getD 0 0, g.whe.getD 1 0, g.whe.getD 2 0]⟩, ⟨p5, 4, 3, [g.whe.getD 3 0, g.whe.getD 4 0, g.whe.getD 5 0]⟩, ⟨p5, 7, 3, [g.whe.getD 6 0, g.whe.getD 7 0, g.whe.getD 8 0]⟩] = g.whe) := Lib.hid (fun g1 => by
            have hl := GA.out.whe.1
            apply List.ext_getElem
            · rw [hl]; rfl
            · intro i h1 h2
              have h3 : i < 9 := by omega
              have h4 : g.whe.getD i 0 = g.whe[i] := by rw [List.getD_eq_getElem?_getD, List.getElem?_eq_getElem h2]; rfl
              rw [← h4]
              rcases (by omega : i = 0 ∨ i = 1 ∨ i = 2 ∨ i = 3 ∨ i = 4 ∨ i = 5 ∨ i = 6 ∨ i = 7 ∨ i = 8) with rfl | rfl | rfl | rfl | rfl | rfl | rfl | rfl | rfl <;> rfl)
          go_upto_region 9 with fail
          refine wp_region_inv 13 (fun qz u' => if qz = 10 then True else if qz = 11 then True else u' = [(.func (.func 75) #[] #[.pointer (some ⟨p, 0, none⟩)]), (.pointer (some ⟨p5, 1, none⟩)), (.pointer (some ⟨p5, 1, none⟩)), (.slice (some ⟨p5, 1, none⟩) 3 3), (.pointer (some ⟨p5, 1, none⟩)), (.pointer (some ⟨p5, 4, none⟩)), (.slice (some ⟨p5, 4, none⟩) 3 3), (.pointer (some ⟨p5, 1, none⟩)), (.pointer (some ⟨p5, 7, none⟩)), (.slice (some ⟨p5, 7, none⟩) 3 3), undef, undef, (.tuple #[])].getD qz undef) (fun d vs w' => WC W p W1 [t] v g.whe 3 (d 10) (d 11) (d 12) (vs 10) (vs 11) w') (by kernel_rfl) (by kernel_rfl) ?_ ?_ ?_
          · intro vs
            exact WC.keep (w := w6) (WC.start HW.out _ _) ((Below.refl _ _).drew)
          · intro iq oq hi ho
            rcases (by omega : iq = 0 ∨ iq = 1 ∨ iq = 2 ∨ iq = 3 ∨ iq = 4 ∨ iq = 5 ∨ iq = 6 ∨ iq = 7 ∨ iq = 8 ∨ iq = 9 ∨ iq = 10 ∨ iq = 11 ∨ iq = 12) with rfl | rfl | rfl | rfl | rfl | rfl | rfl | rfl | rfl | rfl | rfl | rfl | rfl
            all_goals simp only [List.getElem?_cons_zero, List.getElem?_cons_succ, Option.some.injEq] at ho
            all_goals subst ho
            all_goals intro d a0 wx hI hag hdep hun
            · have e0 := slot_eq (hag 7 rfl)
              exact inv_val (v := (.func (.func 75) #[] #[.pointer (some ⟨p, 0, none⟩)])) (by simp [go_sem, e0]) (fun h => (by cases h)) rfl hI
            · have e0 := slot_eq (hag 5 rfl)
              exact inv_val (v := (.pointer (some ⟨p5, 1, none⟩))) (by simp [go_sem, e0]) (fun h => (by cases h)) rfl hI
            · have e0 := slot_eq (hdep ⟨1, .data⟩ (by simp) rfl).1
              exact inv_val (v := (.pointer (some ⟨p5, 1, none⟩))) (by simp [go_sem, e0]) (fun h => (by cases h)) rfl hI
            · have e0 := slot_eq (hdep ⟨2, .data⟩ (by simp) rfl).1
              exact inv_val (v := (.slice (some ⟨p5, 1, none⟩) 3 3)) (by simp [go_sem, e0]) (fun h => (by cases h)) rfl hI
            · have e0 := slot_eq (hag 5 rfl)
              exact inv_val (v := (.pointer (some ⟨p5, 1, none⟩))) (by simp [go_sem, e0]) (fun h => (by cases h)) rfl hI
            · have e0 := slot_eq (hdep ⟨4, .data⟩ (by simp) rfl).1
              exact inv_val (v := (.pointer (some ⟨p5, 4, none⟩))) (by simp [go_sem, e0]) (fun h => (by cases h)) rfl hI
            · have e0 := slot_eq (hdep ⟨5, .data⟩ (by simp) rfl).1
              exact inv_val (v := (.slice (some ⟨p5, 4, none⟩) 3 3)) (by simp [go_sem, e0]) (fun h => (by cases h)) rfl hI
            · have e0 := slot_eq (hag 5 rfl)
              exact inv_val (v := (.pointer (some ⟨p5, 1, none⟩))) (by simp [go_sem, e0]) (fun h => (by cases h)) rfl hI
            · have e0 := slot_eq (hdep ⟨7, .data⟩ (by simp) rfl).1
              exact inv_val (v := (.pointer (some ⟨p5, 7, none⟩))) (by simp [go_sem, e0]) (fun h => (by cases h)) rfl hI
            · have e0 := slot_eq (hdep ⟨8, .data⟩ (by simp) rfl).1
              exact inv_val (v := (.slice (some ⟨p5, 7, none⟩) 3 3)) (by simp [go_sem, e0]) (fun h => (by cases h)) rfl hI
            · have e0 := slot_eq (hdep ⟨3, .data⟩ (by simp) rfl).1
              have e1 := slot_eq (hdep ⟨6, .data⟩ (by simp) rfl).1
              have e2 := slot_eq (hdep ⟨9, .data⟩ (by simp) rfl).1
              have hbx := hI.kp.1.bx X5.out (by decide) (by decide)
              have hrd : ∀ (q : Nat) (r : SlF), [⟨p5, 1, 3, [g.whe.getD 0 0, g.whe.getD 1 0, g.whe.getD 2 0]⟩, ⟨p5, 4, 3, [g.whe.getD 3 0, g.whe.getD 4 0, g.whe.getD 5 0]⟩, ⟨p5, 7, 3, [g.whe.getD 6 0, g.whe.getD 7 0, g.whe.getD 8 0]⟩][q]? = some r → r.g < wx.heap.size ∧ ∀ (j : Nat) (u : Value), (r.xs.map (Value.float .f32))[j]? = some u → wx.cell? ((⟨r.g, r.o, none⟩ : Addr).add j) = some u := by
                intro q r hr
                rcases (show q = 0 ∨ q = 1 ∨ q = 2 from by have := (List.getElem?_eq_some_iff.1 hr).1; simp only [List.length_cons, List.length_nil] at this; omega) with rfl | rfl | rfl
                all_goals obtain rfl := Option.some.inj hr
                · exact rows_of hbx _ rfl (fun j hj => (match j, hj with | 0, _ => GA.out.whe.2 0 (by omega) | 1, _ => GA.out.whe.2 1 (by omega) | 2, _ => GA.out.whe.2 2 (by omega)))
                · exact rows_of hbx _ rfl (fun j hj => (match j, hj with | 0, _ => GA.out.whe.2 3 (by omega) | 1, _ => GA.out.whe.2 4 (by omega) | 2, _ => GA.out.whe.2 5 (by omega)))
                · exact rows_of hbx _ rfl (fun j hj => (match j, hj with | 0, _ => GA.out.whe.2 6 (by omega) | 1, _ => GA.out.whe.2 7 (by omega) | 2, _ => GA.out.whe.2 8 (by omega)))
              exact inv_val (v := .slice (some ⟨wx.heap.size, 0, none⟩) 3 3) (w' := wx.alloc (.cells #[(.slice (some ⟨p5, 1, none⟩) 3 3), (.slice (some ⟨p5, 4, none⟩) 3 3), (.slice (some ⟨p5, 7, none⟩) 3 3)] 37)) (by simp [go_sem, e0, e1, e2]) (fun h => (by cases h)) trivial (WC.set10 hI [⟨p5, 1, 3, [g.whe.getD 0 0, g.whe.getD 1 0, g.whe.getD 2 0]⟩, ⟨p5, 4, 3, [g.whe.getD 3 0, g.whe.getD 4 0, g.whe.getD 5 0]⟩, ⟨p5, 7, 3, [g.whe.getD 6 0, g.whe.getD 7 0, g.whe.getD 8 0]⟩] rfl (HF.out 0) _ rfl hrd)
            · obtain ⟨gr, rows, hv1, hm, hfl, hbx, hrd⟩ := hI.b (hdep ⟨10, .data⟩ (by simp) rfl).2 (hI.no12 hun)
              have e0 := slot_eq hv1
              refine inv_call (f := 77) (args := #[.slice (some ⟨gr, 0, none⟩) 3 3]) (run_go_call Tryz.func77 (by kernel_rfl) (by kernel_rfl) _ _ _ _ _ _ _ _ _ _ (by simp [Act.eval, e0])) (fun h => (by cases h)) ?_
              refine (slices_ConcatF rows 3 wx hbx hm (by omega) hrd (by rw [hfl]; have := GA.out.whe.1; omega) (by rw [hfl]; have := GA.out.whe.1; omega)).mono ?_
              rintro e w' ⟨u', rfl, ho2, hb2⟩
              rw [hfl] at ho2
              exact ⟨u', rfl, trivial, WC.set11 hI (hdep ⟨10, .data⟩ (by simp) rfl).2 ho2 hb2⟩
            · have hc := hI.c (hdep ⟨11, .data⟩ (by simp) rfl).2 hun
              obtain ⟨a1, n1, c1, hv1⟩ := hc.form
              rw [hv1] at hc
              have e0 := slot_eq (hdep ⟨0, .data⟩ (by simp) rfl).1
              have e1 := slot_eq hv1
              refine inv_call (f := 75) (args := #[.slice a1 n1 c1, .pointer (some ⟨p, 0, none⟩)]) (run_go_callv (args := #[.slice a1 n1 c1, .pointer (some ⟨p, 0, none⟩)]) Tryz.func75 (by kernel_rfl) (by kernel_rfl) _ _ _ _ _ _ _ _ _ _ _ e0 (by simp [Act.eval, e1])) (fun h => (by cases h)) ?_
              refine (say_own g.whe HS.out.2.2.2.1.whe (by intro e; have := GA.out.whe.1; rw [e] at this; cases this) HE.out HP.out hc (hI.a hun) (by have := GA.out.whe.1; show 1 + g.whe.length ≤ 1000000; omega)).mono ?_
              rintro e w' ⟨rfl, hw'⟩
              exact ⟨_, rfl, rfl, WC.set12 (hdep ⟨11, .data⟩ (by simp) rfl).2 (hI.f2 (hdep ⟨11, .data⟩ (by simp) rfl).2) hw'⟩
          · intro d vs w6b hd hI hA
            have k0 : vs 0 = (.func (.func 75) #[] #[.pointer (some ⟨p, 0, none⟩)]) := hA 0 (by omega)
            have k1 : vs 1 = (.pointer (some ⟨p5, 1, none⟩)) := hA 1 (by omega)
            have k2 : vs 2 = (.pointer (some ⟨p5, 1, none⟩)) := hA 2 (by omega)
            have k3 : vs 3 = (.slice (some ⟨p5, 1, none⟩) 3 3) := hA 3 (by omega)
            have k4 : vs 4 = (.pointer (some ⟨p5, 1, none⟩)) := hA 4 (by omega)
            have k5 : vs 5 = (.pointer (some ⟨p5, 4, none⟩)) := hA 5 (by omega)
            have k6 : vs 6 = (.slice (some ⟨p5, 4, none⟩) 3 3) := hA 6 (by omega)
            have k7 : vs 7 = (.pointer (some ⟨p5, 1, none⟩)) := hA 7 (by omega)
            have k8 : vs 8 = (.pointer (some ⟨p5, 7, none⟩)) := hA 8 (by omega)
            have k9 : vs 9 = (.slice (some ⟨p5, 7, none⟩) 3 3) := hA 9 (by omega)
            have k12 : vs 12 = (.tuple #[]) := hA 12 (by omega)
            simp only [putAll, dstAt, List.getElem?_toArray, List.getElem?_cons_zero, List.getElem?_cons_succ, Option.bind_some, Option.bind_none, Act.put, List.setIfInBounds_toArray, List.set_cons_zero, List.set_cons_succ, k0, k1, k2, k3, k4, k5, k6, k7, k8, k9, k12]
            obtain ⟨v', hws⟩ := hI.e (hd 12 (by omega))
            generalize vs 10 = ub at *
            generalize vs 11 = uc at *
            have hws' := hws
            clear hI hA hd k0 k1 k2 k3 k4 k5 k6 k7 k8 k9 k12 hws
            obtain ⟨w7, hw7⟩ : ∃ w7, w6b = w7 := ⟨_, rfl⟩
            rw [hw7] at hws' ⊢
            have hws := hws'
            have HV : Hid (Ws W p W1 (wordsG g) v' w7) := Lib.hid (by rw [words_kind (kn := 1) HK.out.1 HK.out.2.2, bodyW_1 HK.out.1]; exact hws)
            clear hws hws' hw7 hq0 HF
            obtain ⟨av, nv, cv, hv⟩ := HV.out.form
            subst hv
            have hqp := HV.out.2.2.1.all.1 0
            simp only [List.getElem?_toArray, List.getElem?_cons_zero] at hqp
            have hwl := words_len GA.out HS.out.2.2.2.1
            have HWL := Lib.hid hwl
            clear hwl
            go_wp2_with fail
            refine (own_Join HV.out.2.2.2 (by unfold wordsG; exact List.cons_ne_nil _ _) (by have := HWL.out.1; omega) (by have := HWL.out.2; omega)).mono ?_
            rintro e w8 ⟨rfl, hb8⟩
            have HL : Hid (Below W.heap.size W w8) := Lib.hid (HV.out.1.trans (hb8.mono HV.out.1.size))
            have hsl := spaced_len GA.out HS.out.2.2.2.1
            have hsS := HS.out.1
            have h10 : (⟨#[10]⟩ : ByteArray).size = 1 := rfl
            have hs1 : (spaced (wordsG g)).size + (⟨#[10]⟩ : ByteArray).size ≤ 1000000000000 := by omega
            have hs2 : S.size + (spaced (wordsG g) ++ ⟨#[10]⟩).size ≤ 1000000000000 := by rw [ByteArray.size_append]; omega
            have HZ := Lib.hid (And.intro hs1 hs2)
            clear hqp hb8 hsl hsS h10 hs1 hs2
            go_wp2_with (first | refine wpList_cat rfl rfl rfl rfl HZ.out.1 ?_ | refine wpList_cat rfl rfl rfl rfl HZ.out.2 ?_)
            go_roundw
            case rel => exact ⟨k + 1, by omega, by go_num, by rw [HS.out.2.1]; rfl, Lib.hid HL.out⟩
            case measure => simp [RowKit.intOf]; omega
        · have HF : Hid (∀ g1 : Nat, flatS [⟨p5, 10, 3, [g.lst.getD 0 0, g.lst.getD 1 0, g.lst.getD 2 0]⟩, ⟨p5, 13, 3, [g.lst.getD 3 0, g.lst.getD 4 0, g.lst.getD 5 0]⟩, ⟨p5, 16, 3, [g.lst.getD 6 0, g.lst.getD 7 0, g.lst.getD 8 0]⟩, ⟨g1, 0, 1, [g.lst.getD 9 0]⟩] = g.lst) := Lib.hid (fun g1 => by
            have hl := GA.out.lst.1
            apply List.ext_getElem
            · rw [hl]; rfl
            · intro i h1 h2
              have h3 : i < 10 := by omega
              have h4 : g.lst.getD i 0 = g.lst[i] := by rw [List.getD_eq_getElem?_getD, List.getElem?_eq_getElem h2]; rfl
              rw [← h4]
              rcases (by omega : i = 0 ∨ i = 1 ∨ i = 2 ∨ i = 3 ∨ i = 4 ∨ i = 5 ∨ i = 6 ∨ i = 7 ∨ i = 8 ∨ i = 9) with rfl | rfl | rfl | rfl | rfl | rfl | rfl | rfl | rfl | rfl <;> rfl)
          go_upto_region 11 with fail
          refine wp_region_inv 17 (fun qz u' => if qz = 13 then True else if qz = 14 then True else if qz = 15 then True else u' = [(.func (.func 75) #[] #[.pointer (some ⟨p, 0, none⟩)]), (.pointer (some ⟨p5, 10, none⟩)), (.pointer (some ⟨p5, 10, none⟩)), (.slice (some ⟨p5, 10, none⟩) 3 3), (.pointer (some ⟨p5, 10, none⟩)), (.pointer (some ⟨p5, 13, none⟩)), (.slice (some ⟨p5, 13, none⟩) 3 3), (.pointer (some ⟨p5, 10, none⟩)), (.pointer (some ⟨p5, 16, none⟩)), (.slice (some ⟨p5, 16, none⟩) 3 3), (.pointer (some ⟨p5, 10, none⟩)), (.pointer (some ⟨p5, 19, none⟩)), (.float .f32 (g.lst.getD 9 0)), undef, undef, undef, (.tuple #[])].getD qz undef) (fun d vs w' => WC W p W1 [t] v g.lst 4 (d 14) (d 15) (d 16) (vs 14) (vs 15) w' ∧ (d 13 = true → d 16 = false → ∃ g1, vs 13 = .slice (some ⟨g1, 0, none⟩) 1 1 ∧ Bx w' g1 23 #[.float .f32 (g.lst.getD 9 0)])) (by kernel_rfl) (by kernel_rfl) ?_ ?_ ?_
          · intro vs
            exact ⟨WC.keep (w := w6) (WC.start HW.out _ _) ((Below.refl _ _).drew), fun e => (by cases e)⟩
          · intro iq oq hi ho
            rcases (by omega : iq = 0 ∨ iq = 1 ∨ iq = 2 ∨ iq = 3 ∨ iq = 4 ∨ iq = 5 ∨ iq = 6 ∨ iq = 7 ∨ iq = 8 ∨ iq = 9 ∨ iq = 10 ∨ iq = 11 ∨ iq = 12 ∨ iq = 13 ∨ iq = 14 ∨ iq = 15 ∨ iq = 16) with rfl | rfl | rfl | rfl | rfl | rfl | rfl | rfl | rfl | rfl | rfl | rfl | rfl | rfl | rfl | rfl | rfl
            all_goals simp only [List.getElem?_cons_zero, List.getElem?_cons_succ, Option.some.injEq] at ho
            all_goals subst ho
            all_goals intro d a0 wx hI hag hdep hun
            · have e0 := slot_eq (hag 7 rfl)
              exact inv_val (v := (.func (.func 75) #[] #[.pointer (some ⟨p, 0, none⟩)])) (by simp [go_sem, e0]) (fun h => (by cases h)) rfl hI
            · have e0 := slot_eq (hag 5 rfl)
              exact inv_val (v := (.pointer (some ⟨p5, 10, none⟩))) (by simp [go_sem, e0]) (fun h => (by cases h)) rfl hI
            · have e0 := slot_eq (hdep ⟨1, .data⟩ (by simp) rfl).1
              exact inv_val (v := (.pointer (some ⟨p5, 10, none⟩))) (by simp [go_sem, e0]) (fun h => (by cases h)) rfl hI
            · have e0 := slot_eq (hdep ⟨2, .data⟩ (by simp) rfl).1
              exact inv_val (v := (.slice (some ⟨p5, 10, none⟩) 3 3)) (by simp [go_sem, e0]) (fun h => (by cases h)) rfl hI
            · have e0 := slot_eq (hag 5 rfl)
              exact inv_val (v := (.pointer (some ⟨p5, 10, none⟩))) (by simp [go_sem, e0]) (fun h => (by cases h)) rfl hI
            · have e0 := slot_eq (hdep ⟨4, .data⟩ (by simp) rfl).1
              exact inv_val (v := (.pointer (some ⟨p5, 13, none⟩))) (by simp [go_sem, e0]) (fun h => (by cases h)) rfl hI
            · have e0 := slot_eq (hdep ⟨5, .data⟩ (by simp) rfl).1
              exact inv_val (v := (.slice (some ⟨p5, 13, none⟩) 3 3)) (by simp [go_sem, e0]) (fun h => (by cases h)) rfl hI
            · have e0 := slot_eq (hag 5 rfl)
              exact inv_val (v := (.pointer (some ⟨p5, 10, none⟩))) (by simp [go_sem, e0]) (fun h => (by cases h)) rfl hI
            · have e0 := slot_eq (hdep ⟨7, .data⟩ (by simp) rfl).1
              exact inv_val (v := (.pointer (some ⟨p5, 16, none⟩))) (by simp [go_sem, e0]) (fun h => (by cases h)) rfl hI
            · have e0 := slot_eq (hdep ⟨8, .data⟩ (by simp) rfl).1
              exact inv_val (v := (.slice (some ⟨p5, 16, none⟩) 3 3)) (by simp [go_sem, e0]) (fun h => (by cases h)) rfl hI
            · have e0 := slot_eq (hag 5 rfl)
              exact inv_val (v := (.pointer (some ⟨p5, 10, none⟩))) (by simp [go_sem, e0]) (fun h => (by cases h)) rfl hI
            · have e0 := slot_eq (hdep ⟨10, .data⟩ (by simp) rfl).1
              exact inv_val (v := (.pointer (some ⟨p5, 19, none⟩))) (by simp [go_sem, e0]) (fun h => (by cases h)) rfl hI
            · have hq := (hI.1.kp.1.bx X5.out (by decide) (by decide)).all.1 19
              have hq9 : C[19]? = some (.float .f32 (g.lst.getD 9 0)) := GA.out.lst.2 9 (by omega)
              rw [hq9] at hq
              have e0 := slot_eq (hdep ⟨11, .data⟩ (by simp) rfl).1
              exact inv_val (v := (.float .f32 (g.lst.getD 9 0))) (by simp [go_sem, e0, hq]) (fun h => (by cases h)) rfl hI
            · have e0 := slot_eq (hdep ⟨12, .data⟩ (by simp) rfl).1
              exact inv_val (v := .slice (some ⟨wx.heap.size, 0, none⟩) 1 1) (w' := wx.alloc (.cells #[.float .f32 (g.lst.getD 9 0)] 23)) (by simp [go_sem, e0]) (fun h => (by cases h)) trivial ⟨WC.keep hI.1 (bnew (Below.refl _ _)), fun _ _ => ⟨_, rfl, Bx.new _ _ _⟩⟩
            · have e0 := slot_eq (hdep ⟨3, .data⟩ (by simp) rfl).1
              have e1 := slot_eq (hdep ⟨6, .data⟩ (by simp) rfl).1
              have e2 := slot_eq (hdep ⟨9, .data⟩ (by simp) rfl).1
              obtain ⟨g1, hv1, hx1⟩ := hI.2 (hdep ⟨13, .data⟩ (by simp) rfl).2 (hI.1.no12x hun)
              have e3 := slot_eq hv1
              have hbx := hI.1.kp.1.bx X5.out (by decide) (by decide)
              have hrd : ∀ (q : Nat) (r : SlF), [⟨p5, 10, 3, [g.lst.getD 0 0, g.lst.getD 1 0, g.lst.getD 2 0]⟩, ⟨p5, 13, 3, [g.lst.getD 3 0, g.lst.getD 4 0, g.lst.getD 5 0]⟩, ⟨p5, 16, 3, [g.lst.getD 6 0, g.lst.getD 7 0, g.lst.getD 8 0]⟩, ⟨g1, 0, 1, [g.lst.getD 9 0]⟩][q]? = some r → r.g < wx.heap.size ∧ ∀ (j : Nat) (u : Value), (r.xs.map (Value.float .f32))[j]? = some u → wx.cell? ((⟨r.g, r.o, none⟩ : Addr).add j) = some u := by
                intro q r hr
                rcases (show q = 0 ∨ q = 1 ∨ q = 2 ∨ q = 3 from by have := (List.getElem?_eq_some_iff.1 hr).1; simp only [List.length_cons, List.length_nil] at this; omega) with rfl | rfl | rfl | rfl
                all_goals obtain rfl := Option.some.inj hr
                · exact rows_of hbx _ rfl (fun j hj => (match j, hj with | 0, _ => GA.out.lst.2 0 (by omega) | 1, _ => GA.out.lst.2 1 (by omega) | 2, _ => GA.out.lst.2 2 (by omega)))
                · exact rows_of hbx _ rfl (fun j hj => (match j, hj with | 0, _ => GA.out.lst.2 3 (by omega) | 1, _ => GA.out.lst.2 4 (by omega) | 2, _ => GA.out.lst.2 5 (by omega)))
                · exact rows_of hbx _ rfl (fun j hj => (match j, hj with | 0, _ => GA.out.lst.2 6 (by omega) | 1, _ => GA.out.lst.2 7 (by omega) | 2, _ => GA.out.lst.2 8 (by omega)))
                · exact rows_of hx1 _ rfl (fun j hj => (match j, hj with | 0, _ => rfl))
              exact inv_val (v := .slice (some ⟨wx.heap.size, 0, none⟩) 4 4) (w' := wx.alloc (.cells #[(.slice (some ⟨p5, 10, none⟩) 3 3), (.slice (some ⟨p5, 13, none⟩) 3 3), (.slice (some ⟨p5, 16, none⟩) 3 3), .slice (some ⟨g1, 0, none⟩) 1 1] 37)) (by simp [go_sem, e0, e1, e2, e3]) (fun h => (by cases h)) trivial (⟨WC.set10 hI.1 [⟨p5, 10, 3, [g.lst.getD 0 0, g.lst.getD 1 0, g.lst.getD 2 0]⟩, ⟨p5, 13, 3, [g.lst.getD 3 0, g.lst.getD 4 0, g.lst.getD 5 0]⟩, ⟨p5, 16, 3, [g.lst.getD 6 0, g.lst.getD 7 0, g.lst.getD 8 0]⟩, ⟨g1, 0, 1, [g.lst.getD 9 0]⟩] rfl (HF.out g1) _ rfl hrd, fun e f => (by obtain ⟨g2, f1, f2⟩ := hI.2 e f; exact ⟨g2, f1, f2.keep (bnew (Below.refl _ _))⟩)⟩)
            · obtain ⟨gr, rows, hv1, hm, hfl, hbx, hrd⟩ := hI.1.b (hdep ⟨14, .data⟩ (by simp) rfl).2 (hI.1.no12 hun)
              have e0 := slot_eq hv1
              refine inv_call (f := 77) (args := #[.slice (some ⟨gr, 0, none⟩) 4 4]) (run_go_call Tryz.func77 (by kernel_rfl) (by kernel_rfl) _ _ _ _ _ _ _ _ _ _ (by simp [Act.eval, e0])) (fun h => (by cases h)) ?_
              refine (slices_ConcatF rows 4 wx hbx hm (by omega) hrd (by rw [hfl]; have := GA.out.lst.1; omega) (by rw [hfl]; have := GA.out.lst.1; omega)).mono ?_
              rintro e w' ⟨u', rfl, ho2, hb2⟩
              rw [hfl] at ho2
              exact ⟨u', rfl, trivial, ⟨WC.set11 hI.1 (hdep ⟨14, .data⟩ (by simp) rfl).2 ho2 hb2, fun e f => (by obtain ⟨g2, f1, f2⟩ := hI.2 e f; exact ⟨g2, f1, f2.keep hb2⟩)⟩⟩
            · have hc := hI.1.c (hdep ⟨15, .data⟩ (by simp) rfl).2 hun
              obtain ⟨a1, n1, c1, hv1⟩ := hc.form
              rw [hv1] at hc
              have e0 := slot_eq (hdep ⟨0, .data⟩ (by simp) rfl).1
              have e1 := slot_eq hv1
              refine inv_call (f := 75) (args := #[.slice a1 n1 c1, .pointer (some ⟨p, 0, none⟩)]) (run_go_callv (args := #[.slice a1 n1 c1, .pointer (some ⟨p, 0, none⟩)]) Tryz.func75 (by kernel_rfl) (by kernel_rfl) _ _ _ _ _ _ _ _ _ _ _ e0 (by simp [Act.eval, e1])) (fun h => (by cases h)) ?_
              refine (say_own g.lst HS.out.2.2.2.1.lst (by intro e; have := GA.out.lst.1; rw [e] at this; cases this) HE.out HP.out hc (hI.1.a hun) (by have := GA.out.lst.1; show 1 + g.lst.length ≤ 1000000; omega)).mono ?_
              rintro e w' ⟨rfl, hw'⟩
              exact ⟨_, rfl, rfl, ⟨WC.set12 (hdep ⟨15, .data⟩ (by simp) rfl).2 (hI.1.f2 (hdep ⟨15, .data⟩ (by simp) rfl).2) hw', fun _ e => (by cases e)⟩⟩
          · intro d vs w6b hd hI hA
            have k0 : vs 0 = (.func (.func 75) #[] #[.pointer (some ⟨p, 0, none⟩)]) := hA 0 (by omega)
            have k1 : vs 1 = (.pointer (some ⟨p5, 10, none⟩)) := hA 1 (by omega)
            have k2 : vs 2 = (.pointer (some ⟨p5, 10, none⟩)) := hA 2 (by omega)
            have k3 : vs 3 = (.slice (some ⟨p5, 10, none⟩) 3 3) := hA 3 (by omega)
            have k4 : vs 4 = (.pointer (some ⟨p5, 10, none⟩)) := hA 4 (by omega)
            have k5 : vs 5 = (.pointer (some ⟨p5, 13, none⟩)) := hA 5 (by omega)
            have k6 : vs 6 = (.slice (some ⟨p5, 13, none⟩) 3 3) := hA 6 (by omega)
            have k7 : vs 7 = (.pointer (some ⟨p5, 10, none⟩)) := hA 7 (by omega)
            have k8 : vs 8 = (.pointer (some ⟨p5, 16, none⟩)) := hA 8 (by omega)
            have k9 : vs 9 = (.slice (some ⟨p5, 16, none⟩) 3 3) := hA 9 (by omega)
            have k10 : vs 10 = (.pointer (some ⟨p5, 10, none⟩)) := hA 10 (by omega)
            have k11 : vs 11 = (.pointer (some ⟨p5, 19, none⟩)) := hA 11 (by omega)
            have k12 : vs 12 = (.float .f32 (g.lst.getD 9 0)) := hA 12 (by omega)
            have k16 : vs 16 = (.tuple #[]) := hA 16 (by omega)
            simp only [putAll, dstAt, List.getElem?_toArray, List.getElem?_cons_zero, List.getElem?_cons_succ, Option.bind_some, Option.bind_none, Act.put, List.setIfInBounds_toArray, List.set_cons_zero, List.set_cons_succ, k0, k1, k2, k3, k4, k5, k6, k7, k8, k9, k10, k11, k12, k16]
            obtain ⟨v', hws⟩ := hI.1.e (hd 16 (by omega))
            generalize vs 14 = ub at *
            generalize vs 15 = uc at *
            generalize vs 13 = ud at *
            have hws' := hws
            clear hI hA hd k0 k1 k2 k3 k4 k5 k6 k7 k8 k9 k10 k11 k12 k16 hws
            obtain ⟨w7, hw7⟩ : ∃ w7, w6b = w7 := ⟨_, rfl⟩
            rw [hw7] at hws' ⊢
            have hws := hws'
            have HV : Hid (Ws W p W1 (wordsG g) v' w7) := Lib.hid (by rw [words_kind (kn := 2) HK.out.1 HK.out.2.2, bodyW_2 HK.out.1]; exact hws)
            clear hws hws' hw7 hq0 HF
            obtain ⟨av, nv, cv, hv⟩ := HV.out.form
            subst hv
            have hqp := HV.out.2.2.1.all.1 0
            simp only [List.getElem?_toArray, List.getElem?_cons_zero] at hqp
            have hwl := words_len GA.out HS.out.2.2.2.1
            have HWL := Lib.hid hwl
            clear hwl
            go_wp2_with fail
            refine (own_Join HV.out.2.2.2 (by unfold wordsG; exact List.cons_ne_nil _ _) (by have := HWL.out.1; omega) (by have := HWL.out.2; omega)).mono ?_
            rintro e w8 ⟨rfl, hb8⟩
            have HL : Hid (Below W.heap.size W w8) := Lib.hid (HV.out.1.trans (hb8.mono HV.out.1.size))
            have hsl := spaced_len GA.out HS.out.2.2.2.1
            have hsS := HS.out.1
            have h10 : (⟨#[10]⟩ : ByteArray).size = 1 := rfl
            have hs1 : (spaced (wordsG g)).size + (⟨#[10]⟩ : ByteArray).size ≤ 1000000000000 := by omega
            have hs2 : S.size + (spaced (wordsG g) ++ ⟨#[10]⟩).size ≤ 1000000000000 := by rw [ByteArray.size_append]; omega
            have HZ := Lib.hid (And.intro hs1 hs2)
            clear hqp hb8 hsl hsS h10 hs1 hs2
            go_wp2_with (first | refine wpList_cat rfl rfl rfl rfl HZ.out.1 ?_ | refine wpList_cat rfl rfl rfl rfl HZ.out.2 ?_)
            go_roundw
            case rel => exact ⟨k + 1, by omega, by go_num, by rw [HS.out.2.1]; rfl, Lib.hid HL.out⟩
            case measure => simp [RowKit.intOf]; omega
        · obtain ⟨D, hD⟩ : ∃ D, C.extract 20 (20 + 12) = D := ⟨_, rfl⟩
          obtain ⟨hD1, hD2⟩ := part_cells HX.out 20 12 (by rw [GA.out.size]; omega)
          rw [hD] at hD1 hD2
          have hDp : Hid (∀ j, j < 12 → D[j]? = C[20 + j]?) := Lib.hid (fun j hj => by
            rw [← hD, Array.getElem?_extract, if_pos (by rw [GA.out.size]; omega)])
          have HD := Lib.hid (And.intro hD1 hD2)
          clear hD hD1 hD2
          go_upto_region 13 with fail
          go_wp2_with (refine wpList_load_cells rfl 40 (.tmp 64) rfl p5 20 rfl D HD.out.2 _ Tryz.underlying40 rfl (by rw [HD.out.1]; kernel_rfl) ?_)
          go_loopw [66] (fun i wr => ∃ (j : Nat) (u : Value), j ≤ 4 ∧ i = .int .i64 (j : Int) ∧ Hid (Ws W p W1 ([t] ++ (g.cvs.take j).flatMap cvW) u wr)) (fun i _ => 4 - (RowKit.intOf i).toNat)
          case atStart => exact ⟨0, v, by omega, rfl, Lib.hid (by rw [List.take_zero, List.flatMap_nil, List.append_nil]; exact HW.out)⟩
          case round =>
            obtain ⟨j, u, hj, rfl, HI⟩ := hrel
            by_cases hlj : j < 4
            · obtain ⟨c3, hc3⟩ : ∃ c3, g.cvs[j]? = some c3 := ⟨_, List.getElem?_eq_getElem (by have := HS.out.2.2.1.cvs.1; omega)⟩
              have hco := HS.out.2.2.2.1.cvs c3 (List.mem_of_getElem? hc3)
              obtain ⟨hk0, ⟨vx, hvx, slx⟩, vy, hvy, sly⟩ := HS.out.2.2.1.cvs.2 j c3 hc3
              have e0 : D[j * 3]? = some (.int .i64 c3.kind) := by rw [hDp.out _ (by omega), show 20 + j * 3 = 20 + 3 * j by omega]; exact hk0
              have e1 : D[j * 3 + 1]? = some vx := by rw [hDp.out _ (by omega), show 20 + (j * 3 + 1) = 21 + 3 * j by omega]; exact hvx
              have e2 : D[j * 3 + 2]? = some vy := by rw [hDp.out _ (by omega), show 20 + (j * 3 + 2) = 22 + 3 * j by omega]; exact hvy
              have e3 := extract3 e0 e1 e2
              have hone : (#[Value.int .i64 c3.kind, vx, vy]).all (·.oneCell') = true := by
                obtain ⟨_, _, _, rfl⟩ := slx.form
                obtain ⟨_, _, _, rfl⟩ := sly.form
                simp [Value.oneCell']
              obtain ⟨D3, hD3⟩ : ∃ D3, (#[Value.int .i64 c3.kind, vx, vy] : Array Value) = D3 := ⟨_, rfl⟩
              rw [hD3] at e3 hone
              have hcs : D3.size = 3 := by rw [← hD3]; rfl
              have hst := fun w => curve_store w hcs hone
              have f0 : D3[0]? = some (.int .i64 c3.kind) := by rw [← hD3]; rfl
              have f1 : D3[1]? = some vx := by rw [← hD3]; rfl
              have f2 : D3[2]? = some vy := by rw [← hD3]; rfl
              have HE3 := Lib.hid e3
              have HF := Lib.hid (And.intro f0 (And.intro f1 (And.intro f2 (And.intro slx sly))))
              have HCO := Lib.hid hco
              obtain ⟨M, hM⟩ : ∃ M, [t] ++ (g.cvs.take j).flatMap cvW = M := ⟨_, rfl⟩
              have HM : Hid ([t] ++ (g.cvs.take (j + 1)).flatMap cvW = M ++ cvW c3) := Lib.hid (by
                rw [← hM, List.take_add_one, hc3, List.flatMap_append, ← List.append_assoc]
                simp)
              have HLn : Hid (M.length + 2 ≤ 500) := Lib.hid (by
                have h1 : ∀ (l : List Cv), (∀ c ∈ l, c ∈ g.cvs) → (l.flatMap cvW).length ≤ 66 * l.length := by
                  intro l
                  induction l with
                  | nil => intro _; simp
                  | cons a l ih =>
                    intro hm
                    have i1 := ih fun c hc => hm c (List.mem_cons_of_mem _ hc)
                    have i2 := (cvW_len HS.out.2.2.2.1 (hm a (List.mem_cons_self ..))).1
                    rw [List.flatMap_cons, List.length_append, List.length_cons]
                    omega
                have h2 := h1 (g.cvs.take j) fun c hc => List.mem_of_mem_take hc
                rw [List.length_take] at h2
                rw [← hM, List.length_append, List.length_singleton]
                omega)
              have HI0 : Hid (Ws W p W1 M u wr) := Lib.hid (hM ▸ HI.out)
              have hd2 : decide ((j : Int) < 4) = true := decide_eq_true (by omega)
              clear HI hM hk0 hvx hvy e0 e1 e2 e3 hone hD3 f0 f1 f2 slx sly hco hc3
              go_upto_region 15 with fail
              go_upto_region 16 with (refine wpList_index_cv rfl (.tmp 65) (.tmp 66) rfl rfl rfl hlj HE3.out ?_)
              clear hst hcs
              refine name_world ?_
              intro W2 hW2
              have X9 : Hid (Bx W2 wr.heap.size 39 D3) := Lib.hid (by rw [hW2]; exact Bx.new wr _ D3)
              have HB2 : Hid (Below wr.heap.size wr W2) := Lib.hid (by rw [hW2]; exact bnew (ob := .cells D3 39) (Below.refl _ _))
              have HI : Hid (Ws W p W2 M u W2) := Lib.hid ⟨(HI0.out.keep HB2.out).1, Kp.refl _, (HI0.out.keep HB2.out).2.2⟩
              have HK12 : Hid (Kp W1 W2) := Lib.hid (HI0.out.keep HB2.out).2.1
              obtain ⟨p9, hp9⟩ : ∃ p, wr.heap.size = p := ⟨_, rfl⟩
              rw [hp9] at X9 ⊢
              clear hW2 hp9 HB2
              obtain ⟨pu, nu, cu, hu⟩ := HI.out.form
              rcases HF.out.2.2.2.1 with ⟨bx, ox, cx, hvx, hne, hrx⟩ | ⟨hx0, ax, cx, hvx⟩
              · clear hu
                obtain ⟨nx, hnx⟩ : ∃ nx, c3.xs.length = nx := ⟨_, rfl⟩
                have hny : c3.ys.length = nx := by rw [← HCO.out.1, hnx]
                have hnp : 0 < nx := by rw [← hnx]; exact List.length_pos_iff.2 hne
                have HNX : Hid (0 < nx ∧ nx ≤ 32 ∧ c3.xs.length = nx ∧ c3.ys.length = nx) := Lib.hid ⟨hnp, by rw [← hnx]; exact HCO.out.2.1, hnx, hny⟩
                obtain ⟨bv, oy, cy, hvy, _, hry⟩ : ∃ b o c, vy = .slice (some ⟨b, o, none⟩) c3.ys.length c ∧ c3.ys ≠ [] ∧ Rd W b o c3.ys := by
                  rcases HF.out.2.2.2.2 with h | ⟨h, _⟩
                  · exact h
                  · rw [h] at hny; simp at hny; omega
                rw [hnx] at hvx
                rw [hny] at hvy
                subst hvx hvy
                have HRx := Lib.hid hrx
                have HRy := Lib.hid hry
                obtain ⟨ck, hck⟩ : ∃ ck : Nat, c3.kind = (ck : Int) := ⟨c3.kind.toNat, by rcases HCO.out.2.2.1 (by omega) with h | h <;> omega⟩
                have hckb : 1 ≤ ck ∧ ck ≤ 2 := by rcases HCO.out.2.2.1 (by omega) with h | h <;> omega
                obtain ⟨wd, hwd⟩ : ∃ wd, curveW.getD ck ⟨#[]⟩ = wd := ⟨_, rfl⟩
                have HCK : Hid ((1 ≤ ck ∧ ck ≤ 2) ∧ (c3.kind = (ck : Int) ∧ curveW.getD ck ⟨#[]⟩ = wd) ∧ (curveW.map Value.string).toArray[ck]? = some (.string wd)) := Lib.hid ⟨hckb, ⟨hck, hwd⟩, by
                  rw [← hwd]
                  rcases (by omega : ck = 1 ∨ ck = 2) with rfl | rfl <;> rfl⟩
                have HD3 : Hid (D3[0]? = some (.int .i64 (ck : Int)) ∧ D3[1]? = some (.slice (some ⟨bx, ox, none⟩) nx cx) ∧ D3[2]? = some (.slice (some ⟨bv, oy, none⟩) nx cy)) := Lib.hid ⟨by rw [← hck]; exact HF.out.1, HF.out.2.1, HF.out.2.2.1⟩
                have hqxo := X9.out.all.1 1
                rw [HD3.out.2.1] at hqxo
                have hnz : ¬ nx = 0 := by omega
                have hnz2 : ¬ (nx : Int) = 0 := by omega
                clear hnx hny hne hrx hry hck hwd hckb hnp HF
                go_upto_region 18 with fail
                clear hnz hnz2
                refine wp_region_inv 13 (fun qz u' => if qz = 1 then True else if qz = 4 then True else if qz = 10 then True else if qz = 11 then True else u' = [u, undef, (.pointer (some ⟨p9, 0, none⟩)), (.int .i64 (ck : Int)), undef, (.string wd), (.pointer (some ⟨p9, 1, none⟩)), (.slice (some ⟨bx, ox, none⟩) nx cx), (.int .i64 (nx : Int)), (.string (itoaB (nx : Int))), undef, undef, undef].getD qz undef) (fun d vs w' => WX W p u W2 M [wd, itoaB (nx : Int)] (d 0) (d 10) (d 11) (d 12) (vs 10) (vs 11) w' ∧ CW ck (d 1) (d 4) (d 11) (vs 1) (vs 4) w' ∧ (d 10 = true → d 5 = true) ∧ (d 5 = true → d 4 = true)) (by kernel_rfl) (by kernel_rfl) ?_ ?_ ?_
                · intro vs
                  exact ⟨WX.keep (w := W2) (Ws.wx HI.out [wd, itoaB (nx : Int)] _ _) ((Below.refl _ _).drew), ⟨fun e => (by cases e), fun e => (by cases e)⟩, fun e => (by cases e), fun e => (by cases e)⟩
                · intro iq oq hi ho
                  rcases (by omega : iq = 0 ∨ iq = 1 ∨ iq = 2 ∨ iq = 3 ∨ iq = 4 ∨ iq = 5 ∨ iq = 6 ∨ iq = 7 ∨ iq = 8 ∨ iq = 9 ∨ iq = 10 ∨ iq = 11 ∨ iq = 12) with rfl | rfl | rfl | rfl | rfl | rfl | rfl | rfl | rfl | rfl | rfl | rfl | rfl
                  all_goals simp only [List.getElem?_cons_zero, List.getElem?_cons_succ, Option.some.injEq] at ho
                  all_goals subst ho
                  all_goals intro d a0 wx hI hag hdep hun
                  · have hJ := hI.1
                    have e0 := slot_eq (hag 6 rfl)
                    have h4 : d 11 = false := by
                      cases h : d 11
                      · rfl
                      · have := (hJ.o4 h).1; rw [hun] at this; cases this
                    have h5 : d 12 = false := by
                      cases h : d 12
                      · rfl
                      · have := hJ.o5 h; rw [h4] at this; cases this
                    have hq := hJ.bx.all.1 0
                    rw [h5, if_neg (by decide)] at hq
                    exact inv_val (v := u) (by simp [go_sem, e0, hq]) (fun h => (by cases h)) rfl ⟨hJ.set0, hI.2.1, hI.2.2⟩
                  · exact inv_val (v := .slice (some ⟨wx.heap.size, 0, none⟩) 3 3) (w' := wx.alloc (.cells #[.string ⟨#[]⟩, .string ⟨#[108, 105, 110, 101, 97, 114]⟩, .string ⟨#[115, 109, 111, 111, 116, 104]⟩] 9)) (by simp [go_sem]) (fun h => (by cases h)) trivial ⟨WX.keep hI.1 (bnew (Below.refl _ _)), CW.set1 hI.2.1 _ rfl, hI.2.2⟩
                  · have e0 := slot_eq (hag 9 rfl)
                    exact inv_val (v := (.pointer (some ⟨p9, 0, none⟩))) (by simp [go_sem, e0]) (fun h => (by cases h)) rfl hI
                  · have hq := (hI.1.kp.bx X9.out (by decide) (by decide)).all.1 0
                    rw [HD3.out.1] at hq
                    have e0 := slot_eq (hdep ⟨2, .data⟩ (by simp) rfl).1
                    exact inv_val (v := (.int .i64 (ck : Int))) (by simp [go_sem, e0, hq]) (fun h => (by cases h)) rfl hI
                  · have h5 : d 5 = false := by
                      cases h : d 5
                      · rfl
                      · have := hI.2.2.2 h; rw [hun] at this; cases this
                    have h10 : d 10 = false := by
                      cases h : d 10
                      · rfl
                      · have := hI.2.2.1 h; rw [h5] at this; cases this
                    have h11 : d 11 = false := by
                      cases h : d 11
                      · rfl
                      · have := (hI.1.o4 h).2; rw [h10] at this; cases this
                    obtain ⟨g1, hv1, hx1⟩ := hI.2.1.a1 (hdep ⟨1, .data⟩ (by simp) rfl).2 h11
                    have e0 := slot_eq hv1
                    have e1 := slot_eq (hdep ⟨3, .data⟩ (by simp) rfl).1
                    have z3 : (ck : Int) < 3 := by have := HCK.out.1; omega
                    exact inv_val (v := .pointer (some ⟨g1, ck, none⟩)) (by simp [go_sem, e0, e1, z3]) (fun h => (by cases h)) trivial ⟨hI.1, CW.set4 hI.2.1 hx1, hI.2.2.1, fun _ => rfl⟩
                  · have h10 : d 10 = false := by
                      cases h : d 10
                      · rfl
                      · have := hI.2.2.1 h; rw [hun] at this; cases this
                    have h11 : d 11 = false := by
                      cases h : d 11
                      · rfl
                      · have := (hI.1.o4 h).2; rw [h10] at this; cases this
                    obtain ⟨g1, hv1, hx1⟩ := hI.2.1.a4 (hdep ⟨4, .data⟩ (by simp) rfl).2 h11
                    have e0 := slot_eq hv1
                    have hq := hx1.all.1 ck
                    rw [HCK.out.2.2] at hq
                    exact inv_val (v := .string wd) (by simp [go_sem, e0, hq]) (fun h => (by cases h)) rfl ⟨hI.1, hI.2.1, fun _ => rfl, fun _ => (hdep ⟨4, .data⟩ (by simp) rfl).2⟩
                  · have e0 := slot_eq (hag 9 rfl)
                    exact inv_val (v := (.pointer (some ⟨p9, 1, none⟩))) (by simp [go_sem, e0]) (fun h => (by cases h)) rfl hI
                  · have hq := (hI.1.kp.bx X9.out (by decide) (by decide)).all.1 1
                    rw [HD3.out.2.1] at hq
                    have e0 := slot_eq (hdep ⟨6, .data⟩ (by simp) rfl).1
                    exact inv_val (v := (.slice (some ⟨bx, ox, none⟩) nx cx)) (by simp [go_sem, e0, hq]) (fun h => (by cases h)) rfl hI
                  · have e0 := slot_eq (hdep ⟨7, .data⟩ (by simp) rfl).1
                    exact inv_val (v := (.int .i64 (nx : Int))) (by simp [go_sem, e0]) (fun h => (by cases h)) rfl hI
                  · have e0 := slot_eq (hdep ⟨8, .data⟩ (by simp) rfl).1
                    refine inv_call (f := 78) (args := #[.int .i64 (nx : Int)]) (run_go_call Tryz.func78 (by kernel_rfl) (by kernel_rfl) _ _ _ _ _ _ _ _ _ _ (by simp [Act.eval, e0])) (fun h => (by cases h)) ?_
                    refine (sc_Itoa (nx : Int) (by have := HNX.out; omega) wx (HE.out.below hI.1.bel)).mono ?_
                    rintro e w' ⟨rfl, hb⟩
                    exact ⟨_, rfl, rfl, WX.keep hI.1 hb, CW.keep hI.2.1 hb, hI.2.2⟩
                  · have e0 := slot_eq (hdep ⟨5, .data⟩ (by simp) rfl).1
                    have e1 := slot_eq (hdep ⟨9, .data⟩ (by simp) rfl).1
                    exact inv_val (v := .slice (some ⟨wx.heap.size, 0, none⟩) 2 2) (w' := wx.alloc (.cells #[.string wd, .string (itoaB (nx : Int))] 9)) (by simp [go_sem, e0, e1]) (fun h => (by cases h)) trivial ⟨WX.set3 hI.1 2 rfl _ rfl, CW.keep hI.2.1 (bnew (Below.refl _ _)), fun _ => (hdep ⟨5, .data⟩ (by simp) rfl).2, hI.2.2.2⟩
                  · have hJ := hI.1
                    have e0 := slot_eq (hdep ⟨0, .data⟩ (by simp) rfl).1
                    have hJ2 : WX W p u W2 M [wd, itoaB (nx : Int)] (d 0) (d 10) (d 11) (d 12) (slotOf _ a0 10) (slotOf _ a0 11) wx := hJ
                    rw [(hdep ⟨0, .data⟩ (by simp) rfl).2, (hdep ⟨10, .data⟩ (by simp) rfl).2, hun] at hJ2
                    have hlen := HLn.out
                    refine wx_append hJ2 (Nat.succ_pos _) (by simp only [List.length_cons, List.length_nil]; omega) (.tmp 76) (.tmp 86) rfl (by simp [Act.eval, e0]) rfl ?_
                    intro v' w' h'
                    refine ⟨v', rfl, fun h => (by cases h), trivial, ?_⟩
                    refine ⟨?_, CW.done rfl, hI.2.2⟩
                    show WX W p u W2 M [wd, itoaB (nx : Int)] (d 0) (d 10) true (d 12) _ v' w'
                    rw [(hdep ⟨0, .data⟩ (by simp) rfl).2, (hdep ⟨10, .data⟩ (by simp) rfl).2]
                    exact h'
                  · have hJ := hI.1
                    have e0 := slot_eq (hag 6 rfl)
                    have h4 := (hdep ⟨11, .data⟩ (by simp) rfl).2
                    obtain ⟨pa, na, ca, hv4⟩ := hJ.form h4
                    have e1 := slot_eq hv4
                    obtain ⟨qx, fx, _⟩ := hJ.bx.all
                    have hq := qx 0
                    have hf := fx 0
                    rw [hun, if_neg (by decide)] at hq
                    have hS := hJ.set5b h4 hun HP.out
                    refine inv_skip (w' := wx.setCell ⟨p, 0, none⟩ (slotOf _ a0 11)) ?_ rfl ⟨hS, CW.done h4, hI.2.2⟩
                    rw [hv4]
                    clear hS hJ hI hag hdep hv4 qx fx
                    simp only [List.getElem?_toArray, List.getElem?_cons_zero] at hq
                    simp [go_sem, e0, e1, hq, hf]
                · intro d vs w6b hd hI hA
                  have k0 : vs 0 = u := hA 0 (by omega)
                  have k2 : vs 2 = (.pointer (some ⟨p9, 0, none⟩)) := hA 2 (by omega)
                  have k3 : vs 3 = (.int .i64 (ck : Int)) := hA 3 (by omega)
                  have k5 : vs 5 = (.string wd) := hA 5 (by omega)
                  have k6 : vs 6 = (.pointer (some ⟨p9, 1, none⟩)) := hA 6 (by omega)
                  have k7 : vs 7 = (.slice (some ⟨bx, ox, none⟩) nx cx) := hA 7 (by omega)
                  have k8 : vs 8 = (.int .i64 (nx : Int)) := hA 8 (by omega)
                  have k9 : vs 9 = (.string (itoaB (nx : Int))) := hA 9 (by omega)
                  simp only [putAll, dstAt, List.getElem?_toArray, List.getElem?_cons_zero, List.getElem?_cons_succ, Option.bind_some, Option.bind_none, Act.put, List.setIfInBounds_toArray, List.set_cons_zero, List.set_cons_succ, k0, k2, k3, k5, k6, k7, k8, k9]
                  have hI6 : WX W p u W2 M [wd, itoaB (nx : Int)] true true true true (vs 10) (vs 11) w6b := by
                    have h := hI.1
                    simp only [hd 0 (by omega), hd 10 (by omega), hd 11 (by omega), hd 12 (by omega)] at h
                    exact h
                  generalize vs 1 = u1' at *
                  generalize vs 4 = u4' at *
                  generalize vs 10 = u10' at *
                  generalize vs 11 = u11' at *
                  have HN := Lib.hid hI6.ws
                  clear hI hA hd k0 k2 k3 k5 k6 k7 k8 k9 hI6
                  have hqx := (HN.out.2.1.bx X9.out (by decide) (by decide)).all.1 1
                  rw [HD3.out.2.1] at hqx
                  clear hqxo
                  go_upto_region 19 with fail
                  go_wp2_with fail
                  go_loopw [91] (fun i wr => ∃ (q : Nat) (u2 : Value), q ≤ nx ∧ i = .int .i64 (q : Int) ∧ Hid (Ws W p W2 (M ++ [wd, itoaB (nx : Int)] ++ pairW c3.xs c3.ys q) u2 wr)) (fun i _ => nx - (RowKit.intOf i).toNat)
                  case atStart => exact ⟨0, u11', by omega, rfl, Lib.hid (by rw [show pairW c3.xs c3.ys 0 = [] from rfl, List.append_nil]; exact HN.out)⟩
                  case round =>
                    clear hqx
                    obtain ⟨q, u2, hq', rfl, HI3⟩ := hrel
                    by_cases hlq : q < nx
                    · obtain ⟨x, hx⟩ : ∃ x, c3.xs.getD q 0 = x := ⟨_, rfl⟩
                      obtain ⟨y, hy⟩ : ∃ y, c3.ys.getD q 0 = y := ⟨_, rfl⟩
                      have RX : Hid (bx < W.heap.size ∧ W.cell? ⟨bx, ox + q, none⟩ = some (.float .f32 x)) := Lib.hid ⟨HRx.out.1, by rw [← hx]; exact HRx.out.2 q (by have := HNX.out.2.2.1; omega)⟩
                      have RY : Hid (bv < W.heap.size ∧ W.cell? ⟨bv, oy + q, none⟩ = some (.float .f32 y)) := Lib.hid ⟨HRy.out.1, by rw [← hy]; exact HRy.out.2 q (by have := HNX.out.2.2.2; omega)⟩
                      have HXY : Hid (x < 4294967296 ∧ y < 4294967296) := Lib.hid ⟨by rw [← hx]; exact HCO.out.2.2.2.1 q (by have := HNX.out.2.2.1; omega), by rw [← hy]; exact HCO.out.2.2.2.2 q (by have := HNX.out.2.2.2; omega)⟩
                      obtain ⟨N, hN⟩ : ∃ N, M ++ [wd, itoaB (nx : Int)] ++ pairW c3.xs c3.ys q = N := ⟨_, rfl⟩
                      have HNM : Hid (M ++ [wd, itoaB (nx : Int)] ++ pairW c3.xs c3.ys (q + 1) = N ++ [x, y].map textF) := Lib.hid (by rw [pairW_succ, ← hN, hx, hy]; simp only [List.append_assoc, List.map_cons, List.map_nil])
                      have HLN : Hid (N.length ≤ 1000) := Lib.hid (by
                        have hp : ∀ k, (pairW c3.xs c3.ys k).length = 2 * k := by
                          intro k
                          induction k with
                          | zero => rfl
                          | succ k ih => rw [pairW_succ, List.length_append, ih]; simp; omega
                        have h1 := HLn.out; have h2 := HNX.out
                        rw [← hN, List.length_append, List.length_append, hp]
                        simp only [List.length_cons, List.length_nil]; omega)
                      have HI4 : Hid (Ws W p W2 N u2 wr) := Lib.hid (hN ▸ HI3.out)
                      have hd3 : decide ((q : Int) < (nx : Int)) = true := decide_eq_true (by omega)
                      have hqn : q < nx := hlq
                      clear HI3 hN hx hy
                      go_upto_region 22 with fail
                      refine wp_region_inv 13 (fun qz u' => if qz = 11 then True else u' = [(.func (.func 75) #[] #[.pointer (some ⟨p, 0, none⟩)]), (.pointer (some ⟨p9, 1, none⟩)), (.slice (some ⟨bx, ox, none⟩) nx cx), (.int .i64 (q : Int)), (.pointer (some ⟨bx, ox + q, none⟩)), (.float .f32 x), (.pointer (some ⟨p9, 2, none⟩)), (.slice (some ⟨bv, oy, none⟩) nx cy), (.int .i64 (q : Int)), (.pointer (some ⟨bv, oy + q, none⟩)), (.float .f32 y), undef, (.tuple #[])].getD qz undef) (fun d vs w' => WP W p W2 N u2 [x, y] (d 11) (d 12) (vs 11) w') (by kernel_rfl) (by kernel_rfl) ?_ ?_ ?_
                      · intro vs
                        exact WP.keep (w := wr) ⟨fun _ => HI4.out, fun e => (by cases e), fun e => (by cases e)⟩ ((Below.refl _ _).drew)
                      · intro iq oq hi ho
                        rcases (by omega : iq = 0 ∨ iq = 1 ∨ iq = 2 ∨ iq = 3 ∨ iq = 4 ∨ iq = 5 ∨ iq = 6 ∨ iq = 7 ∨ iq = 8 ∨ iq = 9 ∨ iq = 10 ∨ iq = 11 ∨ iq = 12) with rfl | rfl | rfl | rfl | rfl | rfl | rfl | rfl | rfl | rfl | rfl | rfl | rfl
                        all_goals simp only [List.getElem?_cons_zero, List.getElem?_cons_succ, Option.some.injEq] at ho
                        all_goals subst ho
                        all_goals intro d a0 wx hI hag hdep hun
                        · have e0 := slot_eq (hag 7 rfl)
                          exact inv_val (v := (.func (.func 75) #[] #[.pointer (some ⟨p, 0, none⟩)])) (by simp [go_sem, e0]) (fun h => (by cases h)) rfl hI
                        · have e0 := slot_eq (hag 9 rfl)
                          exact inv_val (v := (.pointer (some ⟨p9, 1, none⟩))) (by simp [go_sem, e0]) (fun h => (by cases h)) rfl hI
                        · have hq := (hI.kp.1.bx X9.out (by decide) (by decide)).all.1 1
                          rw [HD3.out.2.1] at hq
                          have e0 := slot_eq (hdep ⟨1, .data⟩ (by simp) rfl).1
                          exact inv_val (v := (.slice (some ⟨bx, ox, none⟩) nx cx)) (by simp [go_sem, e0, hq]) (fun h => (by cases h)) rfl hI
                        · have e0 := slot_eq (hag 10 rfl)
                          exact inv_val (v := (.int .i64 (q : Int))) (by simp [go_sem, e0]) (fun h => (by cases h)) rfl hI
                        · have z1 : (q : Int) < (nx : Int) := by omega
                          have e0 := slot_eq (hdep ⟨2, .data⟩ (by simp) rfl).1
                          have e1 := slot_eq (hdep ⟨3, .data⟩ (by simp) rfl).1
                          exact inv_val (v := (.pointer (some ⟨bx, ox + q, none⟩))) (by simp [go_sem, e0, e1, z1, hqn]) (fun h => (by cases h)) rfl hI
                        · have hq : wx.cell? ⟨bx, ox + q, none⟩ = some (.float .f32 x) := by rw [hI.kp.2.cell (p := ⟨bx, ox + q, none⟩) RX.out.1]; exact RX.out.2
                          have e0 := slot_eq (hdep ⟨4, .data⟩ (by simp) rfl).1
                          exact inv_val (v := (.float .f32 x)) (by simp [go_sem, e0, hq]) (fun h => (by cases h)) rfl hI
                        · have e0 := slot_eq (hag 9 rfl)
                          exact inv_val (v := (.pointer (some ⟨p9, 2, none⟩))) (by simp [go_sem, e0]) (fun h => (by cases h)) rfl hI
                        · have hq := (hI.kp.1.bx X9.out (by decide) (by decide)).all.1 2
                          rw [HD3.out.2.2] at hq
                          have e0 := slot_eq (hdep ⟨6, .data⟩ (by simp) rfl).1
                          exact inv_val (v := (.slice (some ⟨bv, oy, none⟩) nx cy)) (by simp [go_sem, e0, hq]) (fun h => (by cases h)) rfl hI
                        · have e0 := slot_eq (hag 10 rfl)
                          exact inv_val (v := (.int .i64 (q : Int))) (by simp [go_sem, e0]) (fun h => (by cases h)) rfl hI
                        · have z1 : (q : Int) < (nx : Int) := by omega
                          have e0 := slot_eq (hdep ⟨7, .data⟩ (by simp) rfl).1
                          have e1 := slot_eq (hdep ⟨8, .data⟩ (by simp) rfl).1
                          exact inv_val (v := (.pointer (some ⟨bv, oy + q, none⟩))) (by simp [go_sem, e0, e1, z1, hqn]) (fun h => (by cases h)) rfl hI
                        · have hq : wx.cell? ⟨bv, oy + q, none⟩ = some (.float .f32 y) := by rw [hI.kp.2.cell (p := ⟨bv, oy + q, none⟩) RY.out.1]; exact RY.out.2
                          have e0 := slot_eq (hdep ⟨9, .data⟩ (by simp) rfl).1
                          exact inv_val (v := (.float .f32 y)) (by simp [go_sem, e0, hq]) (fun h => (by cases h)) rfl hI
                        · have e0 := slot_eq (hdep ⟨5, .data⟩ (by simp) rfl).1
                          have e1 := slot_eq (hdep ⟨10, .data⟩ (by simp) rfl).1
                          exact inv_val (v := .slice (some ⟨wx.heap.size, 0, none⟩) 2 2) (w' := wx.alloc (.cells #[.float .f32 x, .float .f32 y] 23)) (by simp [go_sem, e0, e1]) (fun h => (by cases h)) trivial (WP.set11 hI 2 rfl _ rfl)
                        · obtain ⟨g1, hv1, hx1⟩ := hI.b (hdep ⟨11, .data⟩ (by simp) rfl).2 hun
                          have e0 := slot_eq (hdep ⟨0, .data⟩ (by simp) rfl).1
                          have e1 := slot_eq hv1
                          refine inv_call (f := 75) (args := #[.slice (some ⟨g1, 0, none⟩) 2 2, .pointer (some ⟨p, 0, none⟩)]) (run_go_callv (args := #[.slice (some ⟨g1, 0, none⟩) 2 2, .pointer (some ⟨p, 0, none⟩)]) Tryz.func75 (by kernel_rfl) (by kernel_rfl) _ _ _ _ _ _ _ _ _ _ _ e0 (by simp [Act.eval, e1])) (fun h => (by cases h)) ?_
                          refine (say_bx [x, y] (fun j hj => (match j, hj with | 0, _ => HXY.out.1 | 1, _ => HXY.out.2)) HE.out HP.out hx1 (by decide) (by decide) (fun j hj => (match j, hj with | 0, _ => rfl | 1, _ => rfl)) (hI.a hun) (by have := HLN.out; show N.length + 2 ≤ 1000000; omega) rfl).mono ?_
                          rintro e w' ⟨rfl, hw'⟩
                          exact ⟨_, rfl, rfl, fun e => (by cases e), fun _ e => (by cases e), fun _ => hw'⟩
                      · intro d vs w6c hd hI hA
                        have k0 : vs 0 = (.func (.func 75) #[] #[.pointer (some ⟨p, 0, none⟩)]) := hA 0 (by omega)
                        have k1 : vs 1 = (.pointer (some ⟨p9, 1, none⟩)) := hA 1 (by omega)
                        have k2 : vs 2 = (.slice (some ⟨bx, ox, none⟩) nx cx) := hA 2 (by omega)
                        have k3 : vs 3 = (.int .i64 (q : Int)) := hA 3 (by omega)
                        have k4 : vs 4 = (.pointer (some ⟨bx, ox + q, none⟩)) := hA 4 (by omega)
                        have k5 : vs 5 = (.float .f32 x) := hA 5 (by omega)
                        have k6 : vs 6 = (.pointer (some ⟨p9, 2, none⟩)) := hA 6 (by omega)
                        have k7 : vs 7 = (.slice (some ⟨bv, oy, none⟩) nx cy) := hA 7 (by omega)
                        have k8 : vs 8 = (.int .i64 (q : Int)) := hA 8 (by omega)
                        have k9 : vs 9 = (.pointer (some ⟨bv, oy + q, none⟩)) := hA 9 (by omega)
                        have k10 : vs 10 = (.float .f32 y) := hA 10 (by omega)
                        have k12 : vs 12 = (.tuple #[]) := hA 12 (by omega)
                        simp only [putAll, dstAt, List.getElem?_toArray, List.getElem?_cons_zero, List.getElem?_cons_succ, Option.bind_some, Option.bind_none, Act.put, List.setIfInBounds_toArray, List.set_cons_zero, List.set_cons_succ, k0, k1, k2, k3, k4, k5, k6, k7, k8, k9, k10, k12]
                        obtain ⟨u3', HN0⟩ := hI.e (hd 12 (by omega))
                        generalize vs 11 = u11' at *
                        have HN := Lib.hid HN0
                        clear hI hA hd k0 k1 k2 k3 k4 k5 k6 k7 k8 k9 k10 k12 HN0
                        have HQ := Lib.hid hlq
                        have hq6 : q < 1000 := by have := HNX.out; omega
                        clear hd3 hlq hqn
                        go_wp2_with fail
                        go_roundw
                        case rel => exact ⟨q + 1, u3', Nat.succ_le_of_lt HQ.out, by go_num, Lib.hid (by rw [HNM.out]; exact HN.out)⟩
                        case measure => have := HQ.out; simp [RowKit.intOf]; omega
                    · obtain rfl : q = nx := by omega
                      have hd3 : decide ((q : Int) < (q : Int)) = false := decide_eq_false (by omega)
                      have HF3 : Hid (Ws W p W1 (M ++ cvW c3) u2 wr) := Lib.hid (by
                        rw [cvW_some (by have := HNX.out.1; have := HNX.out.2.2.1; omega) HCK.out.2.1.1 HCK.out.2.1.2, HNX.out.2.2.1, ← List.append_assoc]
                        exact ⟨HI3.out.1, HK12.out.trans HI3.out.2.1, HI3.out.2.2⟩)
                      clear HI3
                      have HJ := Lib.hid hlj
                      clear hd2 hlj
                      go_wp2_with fail
                      go_roundw
                      case rel => exact ⟨j + 1, u2, Nat.succ_le_of_lt HJ.out, by go_num, Lib.hid (by rw [HM.out]; exact HF3.out)⟩
                      case measure => have := HJ.out; simp [RowKit.intOf]; omega
              · subst hu
                have hqx := X9.out.all.1 1
                rw [HF.out.2.1, hvx] at hqx
                have hqp := HI.out.2.2.1.all.1 0
                simp only [List.getElem?_toArray, List.getElem?_cons_zero] at hqp
                have hLn := HLn.out
                go_upto_region 17 with fail
                go_wp2_with (at_builtin; refine wpList_wx_append (WX.set3 (WX.set0 (Ws.wx HI.out [⟨#[45]⟩] undef undef)) 1 rfl _ rfl) (Nat.succ_pos _) (by simp only [List.length_cons, List.length_nil]; omega) rfl (.tmp 73) (.tmp 74) rfl rfl rfl ?_)
                intro v5 w5 h5
                obtain ⟨pa, na, ca, hv5⟩ := h5.form rfl
                subst hv5
                have hb5 := h5.bx.all
                have hq5 := hb5.1 0
                have hf5 := hb5.2.1 0
                rw [if_neg (by decide)] at hq5
                simp only [List.getElem?_toArray, List.getElem?_cons_zero] at hq5
                have HN := Lib.hid ((WX.set5b h5 rfl rfl HP.out).ws)
                have HF3 : Hid (Ws W p W1 (M ++ cvW c3) _ _) := Lib.hid (by rw [cvW_none hx0]; exact ⟨HN.out.1, HK12.out.trans HN.out.2.1, HN.out.2.2⟩)
                have HJ := Lib.hid hlj
                clear hb5 h5 hqx hqp hLn HN hd2 hlj hx0 hvx
                go_wp2_with fail
                go_roundw
                case rel => exact ⟨j + 1, _, Nat.succ_le_of_lt HJ.out, by go_num, Lib.hid (by rw [HM.out]; exact HF3.out)⟩
                case measure => have := HJ.out; simp [RowKit.intOf]; omega
            · obtain rfl : j = 4 := by omega
              have hws := HI.out
              have hl := GA.out.cvs.1
              rw [show g.cvs.take 4 = g.cvs by rw [← hl, List.take_length]] at hws
              obtain ⟨w7, hw7⟩ : ∃ w7, wr = w7 := ⟨_, rfl⟩
              rw [hw7] at hws ⊢
              obtain ⟨v', hv'⟩ : ∃ v', u = v' := ⟨_, rfl⟩
              rw [hv'] at hws
              have HV : Hid (Ws W p W1 (wordsG g) v' w7) := Lib.hid (by rw [words_kind (kn := 3) HK.out.1 HK.out.2.2, bodyW_3 HK.out.1]; exact hws)
              clear hws hw7 hq0 HI hl hv'
              obtain ⟨av, nv, cv, hv⟩ := HV.out.form
              subst hv
              have hqp := HV.out.2.2.1.all.1 0
              simp only [List.getElem?_toArray, List.getElem?_cons_zero] at hqp
              have hwl := words_len GA.out HS.out.2.2.2.1
              have HWL := Lib.hid hwl
              clear hwl
              go_wp2_with fail
              refine (own_Join HV.out.2.2.2 (by unfold wordsG; exact List.cons_ne_nil _ _) (by have := HWL.out.1; omega) (by have := HWL.out.2; omega)).mono ?_
              rintro e w8 ⟨rfl, hb8⟩
              have HL : Hid (Below W.heap.size W w8) := Lib.hid (HV.out.1.trans (hb8.mono HV.out.1.size))
              have hsl := spaced_len GA.out HS.out.2.2.2.1
              have hsS := HS.out.1
              have h10 : (⟨#[10]⟩ : ByteArray).size = 1 := rfl
              have hs1 : (spaced (wordsG g)).size + (⟨#[10]⟩ : ByteArray).size ≤ 1000000000000 := by omega
              have hs2 : S.size + (spaced (wordsG g) ++ ⟨#[10]⟩).size ≤ 1000000000000 := by rw [ByteArray.size_append]; omega
              have HZ := Lib.hid (And.intro hs1 hs2)
              clear hqp hb8 hsl hsS h10 hs1 hs2
              go_wp2_with (first | refine wpList_cat rfl rfl rfl rfl HZ.out.1 ?_ | refine wpList_cat rfl rfl rfl rfl HZ.out.2 ?_)
              go_roundw
              case rel => exact ⟨k + 1, by omega, by go_num, by rw [HS.out.2.1]; rfl, Lib.hid HL.out⟩
              case measure => simp [RowKit.intOf]; omega
        · go_wp2_with fail
          refine (say_bx g.mix HS.out.2.2.2.1.mix HE.out HP.out HX.out (by decide) (by decide) (fun j hj => GA.out.mix.2 j (by have := GA.out.mix.1; omega)) HW.out (by have := GA.out.mix.1; show 1 + g.mix.length ≤ 1000000; omega) GA.out.mix.1).mono ?_
          rintro e w7 ⟨rfl, v', hws⟩
          have HV : Hid (Ws W p W1 (wordsG g) v' w7) := Lib.hid (by rw [words_kind (kn := 4) HK.out.1 HK.out.2.2, bodyW_4 HK.out.1]; exact hws)
          clear hws hq0
          obtain ⟨av, nv, cv, hv⟩ := HV.out.form
          subst hv
          have hqp := HV.out.2.2.1.all.1 0
          simp only [List.getElem?_toArray, List.getElem?_cons_zero] at hqp
          have hwl := words_len GA.out HS.out.2.2.2.1
          have HWL := Lib.hid hwl
          clear hwl
          go_wp2_with fail
          refine (own_Join HV.out.2.2.2 (by unfold wordsG; exact List.cons_ne_nil _ _) (by have := HWL.out.1; omega) (by have := HWL.out.2; omega)).mono ?_
          rintro e w8 ⟨rfl, hb8⟩
          have HL : Hid (Below W.heap.size W w8) := Lib.hid (HV.out.1.trans (hb8.mono HV.out.1.size))
          have hsl := spaced_len GA.out HS.out.2.2.2.1
          have hsS := HS.out.1
          have h10 : (⟨#[10]⟩ : ByteArray).size = 1 := rfl
          have hs1 : (spaced (wordsG g)).size + (⟨#[10]⟩ : ByteArray).size ≤ 1000000000000 := by omega
          have hs2 : S.size + (spaced (wordsG g) ++ ⟨#[10]⟩).size ≤ 1000000000000 := by rw [ByteArray.size_append]; omega
          have HZ := Lib.hid (And.intro hs1 hs2)
          clear hqp hb8 hsl hsS h10 hs1 hs2
          go_wp2_with (first | refine wpList_cat rfl rfl rfl rfl HZ.out.1 ?_ | refine wpList_cat rfl rfl rfl rfl HZ.out.2 ?_)
          go_roundw
          case rel => exact ⟨k + 1, by omega, by go_num, by rw [HS.out.2.1]; rfl, Lib.hid HL.out⟩
          case measure => simp [RowKit.intOf]; omega
        · have hq44 := HX.out.all.1 44
          have hq45 := HX.out.all.1 45
          rw [GA.out.piv] at hq44
          rw [GA.out.amt] at hq45
          go_wp2_with fail
          refine (say_bx [g.piv, g.amt] (fun j hj => (match j, hj with | 0, _ => HS.out.2.2.2.1.piv | 1, _ => HS.out.2.2.2.1.amt)) HE.out HP.out (Bx.new w6 23 _) (by decide) (by decide) (fun j hj => (match j, hj with | 0, _ => rfl | 1, _ => rfl)) (HW.out.keep (bnew (Below.refl _ _))) (by show 1 + 2 ≤ 1000000; omega) rfl).mono ?_
          rintro e w7 ⟨rfl, v', hws⟩
          have HV : Hid (Ws W p W1 (wordsG g) v' w7) := Lib.hid (by rw [words_kind (kn := 5) HK.out.1 HK.out.2.2, bodyW_5 HK.out.1]; exact hws)
          clear hws hq0 hq44 hq45
          obtain ⟨av, nv, cv, hv⟩ := HV.out.form
          subst hv
          have hqp := HV.out.2.2.1.all.1 0
          simp only [List.getElem?_toArray, List.getElem?_cons_zero] at hqp
          have hwl := words_len GA.out HS.out.2.2.2.1
          have HWL := Lib.hid hwl
          clear hwl
          go_wp2_with fail
          refine (own_Join HV.out.2.2.2 (by unfold wordsG; exact List.cons_ne_nil _ _) (by have := HWL.out.1; omega) (by have := HWL.out.2; omega)).mono ?_
          rintro e w8 ⟨rfl, hb8⟩
          have HL : Hid (Below W.heap.size W w8) := Lib.hid (HV.out.1.trans (hb8.mono HV.out.1.size))
          have hsl := spaced_len GA.out HS.out.2.2.2.1
          have hsS := HS.out.1
          have h10 : (⟨#[10]⟩ : ByteArray).size = 1 := rfl
          have hs1 : (spaced (wordsG g)).size + (⟨#[10]⟩ : ByteArray).size ≤ 1000000000000 := by omega
          have hs2 : S.size + (spaced (wordsG g) ++ ⟨#[10]⟩).size ≤ 1000000000000 := by rw [ByteArray.size_append]; omega
          have HZ := Lib.hid (And.intro hs1 hs2)
          clear hqp hb8 hsl hsS h10 hs1 hs2
          go_wp2_with (first | refine wpList_cat rfl rfl rfl rfl HZ.out.1 ?_ | refine wpList_cat rfl rfl rfl rfl HZ.out.2 ?_)
          go_roundw
          case rel => exact ⟨k + 1, by omega, by go_num, by rw [HS.out.2.1]; rfl, Lib.hid HL.out⟩
          case measure => simp [RowKit.intOf]; omega
        · obtain ⟨D, hD⟩ : ∃ D, C.extract 46 (46 + 3) = D := ⟨_, rfl⟩
          obtain ⟨hD1, hD2⟩ := part_cells HX.out 46 3 (by rw [GA.out.size]; omega)
          rw [hD] at hD1 hD2
          have hDp : Hid (∀ j, j < 3 → D[j]? = some (.int .i64 (g.pts.getD j 0))) := Lib.hid (fun j hj => by
            rw [← hD, Array.getElem?_extract, if_pos (by rw [GA.out.size]; omega)]
            exact GA.out.pts.2 j hj)
          have HD := Lib.hid (And.intro hD1 hD2)
          clear hD hD1 hD2
          go_upto_region 30 with fail
          go_wp2_with (refine wpList_load_cells rfl 44 (.tmp 127) rfl p5 46 rfl D HD.out.2 _ Tryz.underlying44 rfl (by rw [HD.out.1]; kernel_rfl) ?_)
          go_loopw [129] (fun i wr => ∃ (j : Nat) (u : Value), j ≤ 3 ∧ i = .int .i64 (j : Int) ∧ Hid (Ws W p W1 ([t] ++ (g.pts.take j).map itoaB) u wr)) (fun i _ => 3 - (RowKit.intOf i).toNat)
          case atStart => exact ⟨0, v, by omega, rfl, Lib.hid (by rw [List.take_zero, List.map_nil, List.append_nil]; exact HW.out)⟩
          case round =>
            obtain ⟨j, u, hj, rfl, HI⟩ := hrel
            by_cases hlj : j < 3
            · obtain ⟨x, hx⟩ : ∃ x, g.pts.getD j 0 = x := ⟨_, rfl⟩
              have hjl : j < g.pts.length := by have := GA.out.pts.1; omega
              have hDx : D[j]? = some (.int .i64 x) := by rw [hDp.out j hlj, hx]
              have HXB : Hid (-9223372036854775808 ≤ x ∧ x ≤ 9223372036854775807) := Lib.hid (by have := HS.out.2.2.2.1.pts j hlj; rw [hx] at this; omega)
              obtain ⟨M, hM⟩ : ∃ M, [t] ++ (g.pts.take j).map itoaB = M := ⟨_, rfl⟩
              have HI2 : Hid (Ws W p W1 M u wr) := Lib.hid (hM ▸ HI.out)
              have HLn : Hid (M.length + 1 ≤ 1000000) := Lib.hid (by rw [← hM, List.length_append, List.length_map, List.length_take, List.length_singleton]; omega)
              have HM : Hid ([t] ++ (g.pts.take (j + 1)).map itoaB = M ++ [itoaB x]) := Lib.hid (by
                rw [← hM, List.take_add_one, List.map_append, ← List.append_assoc, List.getElem?_eq_getElem hjl]
                rw [List.getD_eq_getElem?_getD, List.getElem?_eq_getElem hjl] at hx
                simp only [Option.getD_some] at hx
                rw [hx]; rfl)
              have hd2 : decide ((j : Int) < 3) = true := decide_eq_true (by omega)
              clear HI hM hx hjl
              have HI := HI2
              clear HI2
              have HDX := Lib.hid hDx
              clear hDx
              go_upto_region 33 with (refine wpList_index_pt rfl (.tmp 128) (.tmp 129) rfl rfl rfl hlj HDX.out ?_)
              refine wp_region_inv 6 (fun qz u' => if qz = 3 then True else if qz = 4 then True else u' = [u, (.int .i64 x), (.string (itoaB x)), undef, undef, undef].getD qz undef) (fun d vs w' => WX W p u W1 M [itoaB x] (d 0) (d 3) (d 4) (d 5) (vs 3) (vs 4) w') (by kernel_rfl) (by kernel_rfl) ?_ ?_ ?_
              · intro vs
                exact WX.keep (w := wr) (Ws.wx HI.out [itoaB x] _ _) ((Below.refl _ _).drew)
              · intro iq oq hi ho
                rcases (by omega : iq = 0 ∨ iq = 1 ∨ iq = 2 ∨ iq = 3 ∨ iq = 4 ∨ iq = 5) with rfl | rfl | rfl | rfl | rfl | rfl
                all_goals simp only [List.getElem?_cons_zero, List.getElem?_cons_succ, Option.some.injEq] at ho
                all_goals subst ho
                all_goals intro d a0 wx hI hag hdep hun
                · have hJ := hI
                  have e0 := slot_eq (hag 6 rfl)
                  have h4 : d 4 = false := by
                    cases h : d 4
                    · rfl
                    · have := (hJ.o4 h).1; rw [hun] at this; cases this
                  have h5 : d 5 = false := by
                    cases h : d 5
                    · rfl
                    · have := hJ.o5 h; rw [h4] at this; cases this
                  have hq := hJ.bx.all.1 0
                  rw [h5, if_neg (by decide)] at hq
                  exact inv_val (v := u) (by simp [go_sem, e0, hq]) (fun h => (by cases h)) rfl hJ.set0
                · have e0 := slot_eq (hag 12 rfl)
                  exact inv_val (v := (.int .i64 x)) (by simp [go_sem, e0]) (fun h => (by cases h)) rfl hI
                · have e0 := slot_eq (hdep ⟨1, .data⟩ (by simp) rfl).1
                  refine inv_call (f := 78) (args := #[.int .i64 x]) (run_go_call Tryz.func78 (by kernel_rfl) (by kernel_rfl) _ _ _ _ _ _ _ _ _ _ (by simp [Act.eval, e0])) (fun h => (by cases h)) ?_
                  refine (sc_Itoa x HXB.out wx (HE.out.below hI.bel)).mono ?_
                  rintro e w' ⟨rfl, hb⟩
                  exact ⟨_, rfl, rfl, WX.keep hI hb⟩
                · have e0 := slot_eq (hdep ⟨2, .data⟩ (by simp) rfl).1
                  exact inv_val (v := .slice (some ⟨wx.heap.size, 0, none⟩) 1 1) (w' := wx.alloc (.cells #[.string (itoaB x)] 9)) (by simp [go_sem, e0]) (fun h => (by cases h)) trivial (WX.set3 hI 1 rfl _ rfl)
                · have hJ := hI
                  have e0 := slot_eq (hdep ⟨0, .data⟩ (by simp) rfl).1
                  have hJ2 : WX W p u W1 M [itoaB x] (d 0) (d 3) (d 4) (d 5) (slotOf _ a0 3) (slotOf _ a0 4) wx := hJ
                  rw [(hdep ⟨0, .data⟩ (by simp) rfl).2, (hdep ⟨3, .data⟩ (by simp) rfl).2, hun] at hJ2
                  have hlen := HLn.out
                  refine wx_append hJ2 (Nat.succ_pos _) (by simp only [List.length_cons, List.length_nil]; omega) (.tmp 132) (.tmp 135) rfl (by simp [Act.eval, e0]) rfl ?_
                  intro v' w' h'
                  refine ⟨v', rfl, fun h => (by cases h), trivial, ?_⟩
                  show WX W p u W1 M [itoaB x] (d 0) (d 3) true (d 5) _ v' w'
                  rw [(hdep ⟨0, .data⟩ (by simp) rfl).2, (hdep ⟨3, .data⟩ (by simp) rfl).2]
                  exact h'
                · have hJ := hI
                  have e0 := slot_eq (hag 6 rfl)
                  have h4 := (hdep ⟨4, .data⟩ (by simp) rfl).2
                  obtain ⟨pa, na, ca, hv4⟩ := hJ.form h4
                  have e1 := slot_eq hv4
                  obtain ⟨qx, fx, _⟩ := hJ.bx.all
                  have hq := qx 0
                  have hf := fx 0
                  rw [hun, if_neg (by decide)] at hq
                  have hS := hJ.set5b h4 hun HP.out
                  refine inv_skip (w' := wx.setCell ⟨p, 0, none⟩ (slotOf _ a0 4)) ?_ rfl hS
                  rw [hv4]
                  clear hS hJ hI hag hdep hv4 qx fx
                  simp only [List.getElem?_toArray, List.getElem?_cons_zero] at hq
                  simp [go_sem, e0, e1, hq, hf]
              · intro d vs w6b hd hI hA
                have k0 : vs 0 = u := hA 0 (by omega)
                have k1 : vs 1 = (.int .i64 x) := hA 1 (by omega)
                have k2 : vs 2 = (.string (itoaB x)) := hA 2 (by omega)
                simp only [putAll, dstAt, List.getElem?_toArray, List.getElem?_cons_zero, List.getElem?_cons_succ, Option.bind_some, Option.bind_none, Act.put, List.setIfInBounds_toArray, List.set_cons_zero, List.set_cons_succ, k0, k1, k2]
                have hI6 : WX W p u W1 M [itoaB x] true true true true (vs 3) (vs 4) w6b := by
                  have h := hI
                  simp only [hd 0 (by omega), hd 3 (by omega), hd 4 (by omega), hd 5 (by omega)] at h
                  exact h
                generalize vs 3 = u3' at *
                generalize vs 4 = u4' at *
                have HN := Lib.hid hI6.ws
                clear hI hA hd k0 k1 k2 hI6
                have HK2 := Lib.hid hlj
                clear hd2 hlj
                go_wp2_with fail
                go_roundw
                case rel => exact ⟨j + 1, _, Nat.succ_le_of_lt HK2.out, by go_num, Lib.hid (by rw [HM.out]; exact HN.out)⟩
                case measure => have := HK2.out; simp [RowKit.intOf]; omega
            · obtain rfl : j = 3 := by omega
              have hws := HI.out
              have hl := GA.out.pts.1
              rw [show g.pts.take 3 = g.pts by rw [← hl, List.take_length]] at hws
              obtain ⟨w7, hw7⟩ : ∃ w7, wr = w7 := ⟨_, rfl⟩
              rw [hw7] at hws ⊢
              obtain ⟨v', hv'⟩ : ∃ v', u = v' := ⟨_, rfl⟩
              rw [hv'] at hws
              have HV : Hid (Ws W p W1 (wordsG g) v' w7) := Lib.hid (by rw [words_kind (kn := 6) HK.out.1 HK.out.2.2, bodyW_6 HK.out.1]; exact hws)
              clear hws hw7 hq0 HI hl hv'
              obtain ⟨av, nv, cv, hv⟩ := HV.out.form
              subst hv
              have hqp := HV.out.2.2.1.all.1 0
              simp only [List.getElem?_toArray, List.getElem?_cons_zero] at hqp
              have hwl := words_len GA.out HS.out.2.2.2.1
              have HWL := Lib.hid hwl
              clear hwl
              go_wp2_with fail
              refine (own_Join HV.out.2.2.2 (by unfold wordsG; exact List.cons_ne_nil _ _) (by have := HWL.out.1; omega) (by have := HWL.out.2; omega)).mono ?_
              rintro e w8 ⟨rfl, hb8⟩
              have HL : Hid (Below W.heap.size W w8) := Lib.hid (HV.out.1.trans (hb8.mono HV.out.1.size))
              have hsl := spaced_len GA.out HS.out.2.2.2.1
              have hsS := HS.out.1
              have h10 : (⟨#[10]⟩ : ByteArray).size = 1 := rfl
              have hs1 : (spaced (wordsG g)).size + (⟨#[10]⟩ : ByteArray).size ≤ 1000000000000 := by omega
              have hs2 : S.size + (spaced (wordsG g) ++ ⟨#[10]⟩).size ≤ 1000000000000 := by rw [ByteArray.size_append]; omega
              have HZ := Lib.hid (And.intro hs1 hs2)
              clear hqp hb8 hsl hsS h10 hs1 hs2
              go_wp2_with (first | refine wpList_cat rfl rfl rfl rfl HZ.out.1 ?_ | refine wpList_cat rfl rfl rfl rfl HZ.out.2 ?_)
              go_roundw
              case rel => exact ⟨k + 1, by omega, by go_num, by rw [HS.out.2.1]; rfl, Lib.hid HL.out⟩
              case measure => simp [RowKit.intOf]; omega
    · obtain rfl : k = n := by omega
      have hd1 : decide ((k : Int) < (k : Int)) = false := decide_eq_false (by omega)
      have ht : gs.take k = gs := by rw [← HG.out.2.2.2.1, List.take_length]
      rw [ht]
      clear ht
      go_wp2_with fail
      go_ret
      exact ⟨rfl, HB.out⟩
end Go.Proofs.YticekgnmiaidjaaGreatDoor
