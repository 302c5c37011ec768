/- dyeref1.SameGrade of right grades. (printed by gen_gnk.py) -/
import Derived.Test.YticekgnmiaidjaaGreatDoorGnJ
import Derived.Test.YticekgnmiaidjaaGreatDoorGrd
namespace Go.Proofs.YticekgnmiaidjaaGreatDoor
open Go.RowKit Go.Lib

theorem run_load_op {o : Oper} {a : Act} {w : World} {ty : TypeId} {x : Operand} (ho : o.op = .load ty x) {b f : Nat} (hx : a.eval x = .pointer (some ⟨b, f, none⟩)) (D : Array Value) (hD : ∀ (j : Nat) (v : Value), D[j]? = some v → w.cell? ⟨b, f + j, none⟩ = some v) (d : TypeDesc)
    (hu : Tryz.prog.underlying ty = some d) (hd : (match d with | .struct _ | .array _ _ => true | _ => false) = true) (hi : (Tryz.prog.info? ty).map (·.size) = some D.size) : (execOp a.eval o).run Tryz.prog w = .ok (.value (.agg D)) w := by
  unfold execOp
  simp only [ho, hx, Instr.loadAt, Instr.sureAddr, Sem.run_bind, Sem.run_pure, Result.andThen_ok, run_load_cells D hD ty d hu hd hi]
theorem fold_puts (l : List Value) : ∀ (Z : Array Value) (k : Nat), (l.zipIdx k).foldl (fun cs x => cs.setIfInBounds x.2 x.1) Z = putsAt Z k l := by
  induction l with
  | nil => intro Z k; rfl
  | cons v l ih => intro Z k; rw [List.zipIdx_cons, List.foldl_cons, ih]; rfl
theorem puts_all (Z : Array Value) (C : Array Value) (h : Z.size = C.size) : putsAt Z 0 C.toList = C := by
  apply Array.ext_getElem?
  intro j
  rw [putsAt_get _ _ _ _ (by simp [h])]
  by_cases hj : j < C.size
  · rw [if_pos (by simp [hj])]; simp
  · rw [if_neg (by simp [hj]), Array.getElem?_eq_none (by omega), Array.getElem?_eq_none (by omega)]
theorem fold_all (Z C : Array Value) (h : Z.size = C.size) : Array.foldl (fun (cs : Array Value) (x : Value × Nat) => cs.setIfInBounds x.snd x.fst) Z (C.zipIdx) 0 C.size = C := by
  have h1 : C.size = C.zipIdx.size := by simp
  rw [h1, ← Array.foldl_toList, Array.toList_zipIdx, fold_puts, puts_all Z C h]
theorem run_build1 {C : Array Value} (hs : C.size = 49) (w : World) : (Instr.buildSlice 22 1 #[(0, .agg C)]).run Tryz.prog w = .ok (.slice (some ⟨w.heap.size, 0, none⟩) 1 1) (w.alloc (.cells C 46)) := by
  have hf := fun Z (h : Array.size Z = 49) => fold_all Z C (h.trans hs.symm)
  rw [hs] at hf
  simp [go_sem, hs]
  rw [hf _ (by rfl)]
theorem run_build_op {o : Oper} {a : Act} {w : World} {x : Operand} (ho : o.op = .buildSlice 22 1 #[(0, x)]) {C : Array Value} (hx : a.eval x = .agg C) (hs : C.size = 49) : (execOp a.eval o).run Tryz.prog w = .ok (.value (.slice (some ⟨w.heap.size, 0, none⟩) 1 1)) (w.alloc (.cells C 46)) := by
  unfold execOp
  simp only [ho, List.map_toArray, List.map_cons, List.map_nil, hx, Sem.run_bind, run_build1 hs, Result.andThen_ok, Sem.run_pure]
theorem one_PrintGrades (g : Gd) {C : Array Value} (w : World) (E : EnvF w) (b : Nat) (hx : Bx w b 46 C) (hG : GdAt w C g) (hk : GdOk g) : Calls Tryz.prog 36 #[.slice (some ⟨b, 0, none⟩) 1 1] w fun e w' => e = .returned (.string (linesG [g])) ∧ Below w.heap.size w w' := by
  refine ref_PrintGrades [g] w E b 0 1 1 hx.lt (fun k g' hg' => ?_) (fun g' hg' => ?_) rfl (by omega)
  · cases k with
    | zero =>
      obtain rfl := Option.some.inj hg'
      exact ⟨C, hG, fun j v hj => by rw [hx.all.1, Nat.zero_mul, Nat.add_zero, Nat.zero_add]; exact hj⟩
    | succ k => simp at hg'
  · rw [List.mem_singleton.1 hg']; exact hk
/-- The reference's comparison of grades. -/
def sameG (ga gb : Gd) : Bool := ((linesG [ga]).toList == (linesG [gb]).toList) && (ga.kind == gb.kind)
theorem sameG_refl (g : Gd) : sameG g g = true := by unfold sameG; simp
set_option maxRecDepth 100000 in
set_option maxHeartbeats 8000000 in
theorem ref_SameGrade (Ca Cb : Array Value) (ga gb : Gd) (W : World) (E : EnvF W) (hA : GdAt W Ca ga) (hB : GdAt W Cb gb) (hKa : GdOk ga) (hKb : GdOk gb) : Calls Tryz.prog 15 #[.agg Ca, .agg Cb] W fun e w' => e = .returned (.bool (sameG ga gb)) ∧ Below W.heap.size W w' := by
  have HE := Lib.hid E
  have HGA := Lib.hid hA
  have HGB := Lib.hid hB
  have HKA := Lib.hid hKa
  have HKB := Lib.hid hKb
  clear E hA hB hKa hKb
  obtain ⟨ka, hka⟩ : ∃ k, ga.kind = k := ⟨_, rfl⟩
  obtain ⟨kb, hkb⟩ : ∃ k, gb.kind = k := ⟨_, rfl⟩
  have HKA2 := Lib.hid hka
  have HKB2 := Lib.hid hkb
  have HC : Hid (Ca[0]? = some (.int .i64 ka) ∧ Cb[0]? = some (.int .i64 kb)) := Lib.hid ⟨by rw [← hka]; exact HGA.out.kind, by rw [← hkb]; exact HGB.out.kind⟩
  clear hka hkb
  go_enter Tryz.func15, Tryz.ntmps15
  go_upto_region 1 with fail
  refine name_world ?_
  intro W1 hW1
  have hx2 := Bx.new W 46 Ca
  have X2 : Hid (Bx W1 W.heap.size 46 Ca) := Lib.hid (by rw [hW1]; exact hx2.keep (bnew (ob := .cells Cb 46) (Below.refl _ _)))
  have X3 : Hid (Bx W1 (W.alloc (.cells Ca 46)).heap.size 46 Cb) := Lib.hid (by rw [hW1]; exact Bx.new _ _ _)
  have HB : Hid (Below W.heap.size W W1) := Lib.hid (by rw [hW1]; exact bnew (ob := .cells Cb 46) (bnew (ob := .cells Ca 46) (Below.refl _ _)))
  have X2S := Lib.hid HGA.out.size
  have X3S := Lib.hid HGB.out.size
  have CaS := X2S
  have CbS := X3S
  have hsz : (W.alloc (.cells Ca 46)).heap.size = W.heap.size + 1 := Array.size_push _
  rw [hsz] at X3
  obtain ⟨p2, hp2⟩ : ∃ p, W.heap.size = p := ⟨_, rfl⟩
  obtain ⟨p3, hp3⟩ : ∃ p, p2 + 1 = p := ⟨_, rfl⟩
  rw [hp2] at X2 X3
  rw [hp3] at X3
  try rw [hp2]
  try rw [hp3]
  have HPP := Lib.hid (And.intro hp2 hp3)
  clear hW1 hp2 hp3 hx2 hsz
  cases ht : ((linesG [ga]).toList == (linesG [gb]).toList)
  · have HT := Lib.hid ht
    clear ht
    refine wp_region_grd 14 (fun _ => false) (fun q u w' => if q = 1 then (∃ gn, u = .slice (some ⟨gn, 0, none⟩) 1 1 ∧ Bx w' gn 46 Ca) else if q = 4 then (∃ gn, u = .slice (some ⟨gn, 0, none⟩) 1 1 ∧ Bx w' gn 46 Cb) else u = [(.agg Ca), undef, (.string (linesG [ga])), (.agg Cb), undef, (.string (linesG [gb])), (.bool false), (.bool false), undef, undef, undef, undef, undef, (.bool false)].getD q undef) (fun _ => false) (fun w' => Below W1.heap.size W1 w') (by kernel_rfl) (by kernel_rfl) (fun _ _ _ _ _ h => h)
      (fun _ _ h e => e.trans (h.mono e.size)) (fun t u a' b' hb h => ?_) (Below.refl _ _).drew ?_ ?_ ?_
    · split
      · rename_i h1
        rw [if_pos h1] at h
        obtain ⟨gn, e1, e2⟩ := h
        exact ⟨gn, e1, e2.keep hb⟩
      · rename_i h1
        rw [if_neg h1] at h
        split
        · rename_i h2
          rw [if_pos h2] at h
          obtain ⟨gn, e1, e2⟩ := h
          exact ⟨gn, e1, e2.keep hb⟩
        · rename_i h2
          rw [if_neg h2] at h
          exact h
    · intro t op ht hlt hop
      clear hlt
      rcases (by omega : t = 0 ∨ t = 1 ∨ t = 2 ∨ t = 3 ∨ t = 4 ∨ t = 5 ∨ t = 6 ∨ t = 7 ∨ t = 8 ∨ t = 9 ∨ t = 10 ∨ t = 11 ∨ t = 12 ∨ t = 13) with rfl | rfl | rfl | rfl | rfl | rfl | rfl | rfl | rfl | rfl | rfl | rfl | rfl | rfl
      all_goals simp only [List.getElem?_cons_zero, List.getElem?_cons_succ, Option.some.injEq] at hop
      all_goals subst hop
      all_goals intro a wx hE hag hdep
      · refine grd_none rfl ?_
        have e0 := slot_eq (hag 2 rfl)
        exact rel_pure (.agg Ca) rfl rfl (run_load_op (b := p2) (f := 0) rfl (by simp [Act.eval, e0]) Ca (fun j v hj => by rw [(X2.out.keep hE).all.1, Nat.zero_add]; exact hj) _ Tryz.underlying46 rfl (by rw [X2S.out]; exact grade_size))
      · refine grd_none rfl ?_
        have e0 := slot_eq (hdep ⟨0, .data⟩ (by simp) rfl)
        have bw : Below wx.heap.size wx (wx.alloc (.cells Ca 46)) := bnew (Below.refl _ _)
        exact rel_val (v := .slice (some ⟨wx.heap.size, 0, none⟩) 1 1) (w' := wx.alloc (.cells Ca 46)) (run_build_op rfl (by simp [Act.eval, e0]) CaS.out) ⟨wx.heap.size, rfl, Bx.new _ _ _⟩ bw (fun h => by cases h)
      · refine grd_none rfl ?_
        obtain ⟨gn, e0, xb⟩ := hdep ⟨1, .data⟩ (by simp) rfl
        have e0 := slot_eq e0
        refine rel_call (f := 36) (args := #[.slice (some ⟨gn, 0, none⟩) 1 1]) (run_go_call Tryz.func36 (by kernel_rfl) (by kernel_rfl) _ _ _ _ _ _ _ _ _ _ (by simp [Act.eval, e0])) rfl ?_
        refine (one_PrintGrades ga wx (HE.out.below (HB.out.trans (hE.mono HB.out.size))) gn xb (GdAt.keep HGA.out (HB.out.trans (hE.mono HB.out.size))) HKA.out).mono ?_
        rintro e w' ⟨rfl, hb2⟩
        exact ⟨_, rfl, rfl, hb2⟩
      · refine grd_none rfl ?_
        have e0 := slot_eq (hag 3 rfl)
        exact rel_pure (.agg Cb) rfl rfl (run_load_op (b := p3) (f := 0) rfl (by simp [Act.eval, e0]) Cb (fun j v hj => by rw [(X3.out.keep hE).all.1, Nat.zero_add]; exact hj) _ Tryz.underlying46 rfl (by rw [X3S.out]; exact grade_size))
      · refine grd_none rfl ?_
        have e0 := slot_eq (hdep ⟨3, .data⟩ (by simp) rfl)
        have bw : Below wx.heap.size wx (wx.alloc (.cells Cb 46)) := bnew (Below.refl _ _)
        exact rel_val (v := .slice (some ⟨wx.heap.size, 0, none⟩) 1 1) (w' := wx.alloc (.cells Cb 46)) (run_build_op rfl (by simp [Act.eval, e0]) CbS.out) ⟨wx.heap.size, rfl, Bx.new _ _ _⟩ bw (fun h => by cases h)
      · refine grd_none rfl ?_
        obtain ⟨gn, e0, xb⟩ := hdep ⟨4, .data⟩ (by simp) rfl
        have e0 := slot_eq e0
        refine rel_call (f := 36) (args := #[.slice (some ⟨gn, 0, none⟩) 1 1]) (run_go_call Tryz.func36 (by kernel_rfl) (by kernel_rfl) _ _ _ _ _ _ _ _ _ _ (by simp [Act.eval, e0])) rfl ?_
        refine (one_PrintGrades gb wx (HE.out.below (HB.out.trans (hE.mono HB.out.size))) gn xb (GdAt.keep HGB.out (HB.out.trans (hE.mono HB.out.size))) HKB.out).mono ?_
        rintro e w' ⟨rfl, hb2⟩
        exact ⟨_, rfl, rfl, hb2⟩
      · refine grd_none rfl ?_
        have e0 := slot_eq (hdep ⟨2, .data⟩ (by simp) rfl)
        have e1 := slot_eq (hdep ⟨5, .data⟩ (by simp) rfl)
        exact rel_pure _ rfl rfl (by simp [go_sem, e0, e1, HT.out])
      · refine grd_none rfl ?_
        have e0 := slot_eq (hdep ⟨6, .data⟩ (by simp) rfl)
        exact rel_pure _ rfl rfl (by simp [go_sem, e0])
      · exact grd_no (j := 7) (b := true) rfl (hdep ⟨7, .guard⟩ (by simp) rfl) rfl rfl
      · exact grd_no (j := 7) (b := true) rfl (hdep ⟨7, .guard⟩ (by simp) rfl) rfl rfl
      · exact grd_no (j := 7) (b := true) rfl (hdep ⟨7, .guard⟩ (by simp) rfl) rfl rfl
      · exact grd_no (j := 7) (b := true) rfl (hdep ⟨7, .guard⟩ (by simp) rfl) rfl rfl
      · exact grd_no (j := 7) (b := true) rfl (hdep ⟨7, .guard⟩ (by simp) rfl) rfl rfl
      · refine grd_none rfl ?_
        have e0 := slot_eq (hdep ⟨7, .data⟩ (by simp) rfl)
        exact rel_pure _ rfl rfl (by simp [go_sem, e0])
    · intro t op ht hlt; cases hlt
    · intro vs w6 hE6 hA hne
      have k0 : vs 0 = (.agg Ca) := hA 0 (by omega)
      have k2 : vs 2 = (.string (linesG [ga])) := hA 2 (by omega)
      have k3 : vs 3 = (.agg Cb) := hA 3 (by omega)
      have k5 : vs 5 = (.string (linesG [gb])) := hA 5 (by omega)
      have k6 : vs 6 = (.bool false) := hA 6 (by omega)
      have k7 : vs 7 = (.bool false) := hA 7 (by omega)
      have k8 : vs 8 = undef := hA 8 (by omega)
      have k9 : vs 9 = undef := hA 9 (by omega)
      have k10 : vs 10 = undef := hA 10 (by omega)
      have k11 : vs 11 = undef := hA 11 (by omega)
      have k12 : vs 12 = undef := hA 12 (by omega)
      have k13 : vs 13 = (.bool false) := hA 13 (by omega)
      simp only [List.drop_succ_cons, List.drop_zero, putAll, dstAt, List.getElem?_toArray, List.getElem?_cons_zero, List.getElem?_cons_succ, Option.bind_some, Act.put, List.setIfInBounds_toArray, List.set_cons_zero, List.set_cons_succ, k0, k2, k3, k5, k6, k7, k8, k9, k10, k11, k12, k13]
      generalize vs 1 = u1 at *
      generalize vs 4 = u4 at *
      have HF := Lib.hid (HB.out.trans (hE6.mono HB.out.size))
      clear hA hne hE6 k0 k2 k3 k5 k6 k7 k8 k9 k10 k11 k12 k13
      go_wp2_with fail
      go_ret
      exact ⟨ret_bool' (by unfold sameG; rw [HT.out]; rfl), HF.out⟩
  · have HT := Lib.hid ht
    clear ht
    cases hk : (ka == kb)
    · have HKE := Lib.hid hk
      clear hk
      refine wp_region_grd 14 (fun _ => false) (fun q u w' => if q = 1 then (∃ gn, u = .slice (some ⟨gn, 0, none⟩) 1 1 ∧ Bx w' gn 46 Ca) else if q = 4 then (∃ gn, u = .slice (some ⟨gn, 0, none⟩) 1 1 ∧ Bx w' gn 46 Cb) else u = [(.agg Ca), undef, (.string (linesG [ga])), (.agg Cb), undef, (.string (linesG [gb])), (.bool true), (.bool true), (.pointer (some ⟨p2, 0, none⟩)), (.int .i64 ka), (.pointer (some ⟨p3, 0, none⟩)), (.int .i64 kb), (.bool false), (.bool false)].getD q undef) (fun _ => false) (fun w' => Below W1.heap.size W1 w') (by kernel_rfl) (by kernel_rfl) (fun _ _ _ _ _ h => h)
        (fun _ _ h e => e.trans (h.mono e.size)) (fun t u a' b' hb h => ?_) (Below.refl _ _).drew ?_ ?_ ?_
      · split
        · rename_i h1
          rw [if_pos h1] at h
          obtain ⟨gn, e1, e2⟩ := h
          exact ⟨gn, e1, e2.keep hb⟩
        · rename_i h1
          rw [if_neg h1] at h
          split
          · rename_i h2
            rw [if_pos h2] at h
            obtain ⟨gn, e1, e2⟩ := h
            exact ⟨gn, e1, e2.keep hb⟩
          · rename_i h2
            rw [if_neg h2] at h
            exact h
      · intro t op ht hlt hop
        clear hlt
        rcases (by omega : t = 0 ∨ t = 1 ∨ t = 2 ∨ t = 3 ∨ t = 4 ∨ t = 5 ∨ t = 6 ∨ t = 7 ∨ t = 8 ∨ t = 9 ∨ t = 10 ∨ t = 11 ∨ t = 12 ∨ t = 13) with rfl | rfl | rfl | rfl | rfl | rfl | rfl | rfl | rfl | rfl | rfl | rfl | rfl | rfl
        all_goals simp only [List.getElem?_cons_zero, List.getElem?_cons_succ, Option.some.injEq] at hop
        all_goals subst hop
        all_goals intro a wx hE hag hdep
        · refine grd_none rfl ?_
          have e0 := slot_eq (hag 2 rfl)
          exact rel_pure (.agg Ca) rfl rfl (run_load_op (b := p2) (f := 0) rfl (by simp [Act.eval, e0]) Ca (fun j v hj => by rw [(X2.out.keep hE).all.1, Nat.zero_add]; exact hj) _ Tryz.underlying46 rfl (by rw [X2S.out]; exact grade_size))
        · refine grd_none rfl ?_
          have e0 := slot_eq (hdep ⟨0, .data⟩ (by simp) rfl)
          have bw : Below wx.heap.size wx (wx.alloc (.cells Ca 46)) := bnew (Below.refl _ _)
          exact rel_val (v := .slice (some ⟨wx.heap.size, 0, none⟩) 1 1) (w' := wx.alloc (.cells Ca 46)) (run_build_op rfl (by simp [Act.eval, e0]) CaS.out) ⟨wx.heap.size, rfl, Bx.new _ _ _⟩ bw (fun h => by cases h)
        · refine grd_none rfl ?_
          obtain ⟨gn, e0, xb⟩ := hdep ⟨1, .data⟩ (by simp) rfl
          have e0 := slot_eq e0
          refine rel_call (f := 36) (args := #[.slice (some ⟨gn, 0, none⟩) 1 1]) (run_go_call Tryz.func36 (by kernel_rfl) (by kernel_rfl) _ _ _ _ _ _ _ _ _ _ (by simp [Act.eval, e0])) rfl ?_
          refine (one_PrintGrades ga wx (HE.out.below (HB.out.trans (hE.mono HB.out.size))) gn xb (GdAt.keep HGA.out (HB.out.trans (hE.mono HB.out.size))) HKA.out).mono ?_
          rintro e w' ⟨rfl, hb2⟩
          exact ⟨_, rfl, rfl, hb2⟩
        · refine grd_none rfl ?_
          have e0 := slot_eq (hag 3 rfl)
          exact rel_pure (.agg Cb) rfl rfl (run_load_op (b := p3) (f := 0) rfl (by simp [Act.eval, e0]) Cb (fun j v hj => by rw [(X3.out.keep hE).all.1, Nat.zero_add]; exact hj) _ Tryz.underlying46 rfl (by rw [X3S.out]; exact grade_size))
        · refine grd_none rfl ?_
          have e0 := slot_eq (hdep ⟨3, .data⟩ (by simp) rfl)
          have bw : Below wx.heap.size wx (wx.alloc (.cells Cb 46)) := bnew (Below.refl _ _)
          exact rel_val (v := .slice (some ⟨wx.heap.size, 0, none⟩) 1 1) (w' := wx.alloc (.cells Cb 46)) (run_build_op rfl (by simp [Act.eval, e0]) CbS.out) ⟨wx.heap.size, rfl, Bx.new _ _ _⟩ bw (fun h => by cases h)
        · refine grd_none rfl ?_
          obtain ⟨gn, e0, xb⟩ := hdep ⟨4, .data⟩ (by simp) rfl
          have e0 := slot_eq e0
          refine rel_call (f := 36) (args := #[.slice (some ⟨gn, 0, none⟩) 1 1]) (run_go_call Tryz.func36 (by kernel_rfl) (by kernel_rfl) _ _ _ _ _ _ _ _ _ _ (by simp [Act.eval, e0])) rfl ?_
          refine (one_PrintGrades gb wx (HE.out.below (HB.out.trans (hE.mono HB.out.size))) gn xb (GdAt.keep HGB.out (HB.out.trans (hE.mono HB.out.size))) HKB.out).mono ?_
          rintro e w' ⟨rfl, hb2⟩
          exact ⟨_, rfl, rfl, hb2⟩
        · refine grd_none rfl ?_
          have e0 := slot_eq (hdep ⟨2, .data⟩ (by simp) rfl)
          have e1 := slot_eq (hdep ⟨5, .data⟩ (by simp) rfl)
          exact rel_pure _ rfl rfl (by simp [go_sem, e0, e1, HT.out])
        · refine grd_none rfl ?_
          have e0 := slot_eq (hdep ⟨6, .data⟩ (by simp) rfl)
          exact rel_pure _ rfl rfl (by simp [go_sem, e0])
        · refine grd_yes (j := 7) (b := true) rfl (hdep ⟨7, .guard⟩ (by simp) rfl) ?_
          have e0 := slot_eq (hag 2 rfl)
          exact rel_pure _ rfl rfl (by simp [go_sem, e0])
        · refine grd_yes (j := 7) (b := true) rfl (hdep ⟨7, .guard⟩ (by simp) rfl) ?_
          have e0 := slot_eq (hdep ⟨8, .data⟩ (by simp) rfl)
          have hq : wx.cell? ⟨p2, 0, none⟩ = some (.int .i64 ka) := by rw [(X2.out.keep hE).all.1]; exact HC.out.1
          exact rel_pure _ rfl rfl (by simp [go_sem, e0, hq])
        · refine grd_yes (j := 7) (b := true) rfl (hdep ⟨7, .guard⟩ (by simp) rfl) ?_
          have e0 := slot_eq (hag 3 rfl)
          exact rel_pure _ rfl rfl (by simp [go_sem, e0])
        · refine grd_yes (j := 7) (b := true) rfl (hdep ⟨7, .guard⟩ (by simp) rfl) ?_
          have e0 := slot_eq (hdep ⟨10, .data⟩ (by simp) rfl)
          have hq : wx.cell? ⟨p3, 0, none⟩ = some (.int .i64 kb) := by rw [(X3.out.keep hE).all.1]; exact HC.out.2
          exact rel_pure _ rfl rfl (by simp [go_sem, e0, hq])
        · refine grd_yes (j := 7) (b := true) rfl (hdep ⟨7, .guard⟩ (by simp) rfl) ?_
          have e0 := slot_eq (hdep ⟨9, .data⟩ (by simp) rfl)
          have e1 := slot_eq (hdep ⟨11, .data⟩ (by simp) rfl)
          exact rel_pure _ rfl rfl (by simp [go_sem, e0, e1, HKE.out])
        · refine grd_none rfl ?_
          have e0 := slot_eq (hdep ⟨7, .data⟩ (by simp) rfl)
          have e1 := slot_eq (hdep ⟨12, .data⟩ (by simp) rfl)
          exact rel_pure _ rfl rfl (by simp [go_sem, e0, e1])
      · intro t op ht hlt; cases hlt
      · intro vs w6 hE6 hA hne
        have k0 : vs 0 = (.agg Ca) := hA 0 (by omega)
        have k2 : vs 2 = (.string (linesG [ga])) := hA 2 (by omega)
        have k3 : vs 3 = (.agg Cb) := hA 3 (by omega)
        have k5 : vs 5 = (.string (linesG [gb])) := hA 5 (by omega)
        have k6 : vs 6 = (.bool true) := hA 6 (by omega)
        have k7 : vs 7 = (.bool true) := hA 7 (by omega)
        have k8 : vs 8 = (.pointer (some ⟨p2, 0, none⟩)) := hA 8 (by omega)
        have k9 : vs 9 = (.int .i64 ka) := hA 9 (by omega)
        have k10 : vs 10 = (.pointer (some ⟨p3, 0, none⟩)) := hA 10 (by omega)
        have k11 : vs 11 = (.int .i64 kb) := hA 11 (by omega)
        have k12 : vs 12 = (.bool false) := hA 12 (by omega)
        have k13 : vs 13 = (.bool false) := hA 13 (by omega)
        simp only [List.drop_succ_cons, List.drop_zero, putAll, dstAt, List.getElem?_toArray, List.getElem?_cons_zero, List.getElem?_cons_succ, Option.bind_some, Act.put, List.setIfInBounds_toArray, List.set_cons_zero, List.set_cons_succ, k0, k2, k3, k5, k6, k7, k8, k9, k10, k11, k12, k13]
        generalize vs 1 = u1 at *
        generalize vs 4 = u4 at *
        have HF := Lib.hid (HB.out.trans (hE6.mono HB.out.size))
        clear hA hne hE6 k0 k2 k3 k5 k6 k7 k8 k9 k10 k11 k12 k13
        go_wp2_with fail
        go_ret
        exact ⟨ret_bool' (by unfold sameG; rw [HT.out, HKA2.out, HKB2.out, HKE.out]; rfl), HF.out⟩
    · have HKE := Lib.hid hk
      clear hk
      refine wp_region_grd 14 (fun _ => false) (fun q u w' => if q = 1 then (∃ gn, u = .slice (some ⟨gn, 0, none⟩) 1 1 ∧ Bx w' gn 46 Ca) else if q = 4 then (∃ gn, u = .slice (some ⟨gn, 0, none⟩) 1 1 ∧ Bx w' gn 46 Cb) else u = [(.agg Ca), undef, (.string (linesG [ga])), (.agg Cb), undef, (.string (linesG [gb])), (.bool true), (.bool true), (.pointer (some ⟨p2, 0, none⟩)), (.int .i64 ka), (.pointer (some ⟨p3, 0, none⟩)), (.int .i64 kb), (.bool true), (.bool true)].getD q undef) (fun _ => false) (fun w' => Below W1.heap.size W1 w') (by kernel_rfl) (by kernel_rfl) (fun _ _ _ _ _ h => h)
        (fun _ _ h e => e.trans (h.mono e.size)) (fun t u a' b' hb h => ?_) (Below.refl _ _).drew ?_ ?_ ?_
      · split
        · rename_i h1
          rw [if_pos h1] at h
          obtain ⟨gn, e1, e2⟩ := h
          exact ⟨gn, e1, e2.keep hb⟩
        · rename_i h1
          rw [if_neg h1] at h
          split
          · rename_i h2
            rw [if_pos h2] at h
            obtain ⟨gn, e1, e2⟩ := h
            exact ⟨gn, e1, e2.keep hb⟩
          · rename_i h2
            rw [if_neg h2] at h
            exact h
      · intro t op ht hlt hop
        clear hlt
        rcases (by omega : t = 0 ∨ t = 1 ∨ t = 2 ∨ t = 3 ∨ t = 4 ∨ t = 5 ∨ t = 6 ∨ t = 7 ∨ t = 8 ∨ t = 9 ∨ t = 10 ∨ t = 11 ∨ t = 12 ∨ t = 13) with rfl | rfl | rfl | rfl | rfl | rfl | rfl | rfl | rfl | rfl | rfl | rfl | rfl | rfl
        all_goals simp only [List.getElem?_cons_zero, List.getElem?_cons_succ, Option.some.injEq] at hop
        all_goals subst hop
        all_goals intro a wx hE hag hdep
        · refine grd_none rfl ?_
          have e0 := slot_eq (hag 2 rfl)
          exact rel_pure (.agg Ca) rfl rfl (run_load_op (b := p2) (f := 0) rfl (by simp [Act.eval, e0]) Ca (fun j v hj => by rw [(X2.out.keep hE).all.1, Nat.zero_add]; exact hj) _ Tryz.underlying46 rfl (by rw [X2S.out]; exact grade_size))
        · refine grd_none rfl ?_
          have e0 := slot_eq (hdep ⟨0, .data⟩ (by simp) rfl)
          have bw : Below wx.heap.size wx (wx.alloc (.cells Ca 46)) := bnew (Below.refl _ _)
          exact rel_val (v := .slice (some ⟨wx.heap.size, 0, none⟩) 1 1) (w' := wx.alloc (.cells Ca 46)) (run_build_op rfl (by simp [Act.eval, e0]) CaS.out) ⟨wx.heap.size, rfl, Bx.new _ _ _⟩ bw (fun h => by cases h)
        · refine grd_none rfl ?_
          obtain ⟨gn, e0, xb⟩ := hdep ⟨1, .data⟩ (by simp) rfl
          have e0 := slot_eq e0
          refine rel_call (f := 36) (args := #[.slice (some ⟨gn, 0, none⟩) 1 1]) (run_go_call Tryz.func36 (by kernel_rfl) (by kernel_rfl) _ _ _ _ _ _ _ _ _ _ (by simp [Act.eval, e0])) rfl ?_
          refine (one_PrintGrades ga wx (HE.out.below (HB.out.trans (hE.mono HB.out.size))) gn xb (GdAt.keep HGA.out (HB.out.trans (hE.mono HB.out.size))) HKA.out).mono ?_
          rintro e w' ⟨rfl, hb2⟩
          exact ⟨_, rfl, rfl, hb2⟩
        · refine grd_none rfl ?_
          have e0 := slot_eq (hag 3 rfl)
          exact rel_pure (.agg Cb) rfl rfl (run_load_op (b := p3) (f := 0) rfl (by simp [Act.eval, e0]) Cb (fun j v hj => by rw [(X3.out.keep hE).all.1, Nat.zero_add]; exact hj) _ Tryz.underlying46 rfl (by rw [X3S.out]; exact grade_size))
        · refine grd_none rfl ?_
          have e0 := slot_eq (hdep ⟨3, .data⟩ (by simp) rfl)
          have bw : Below wx.heap.size wx (wx.alloc (.cells Cb 46)) := bnew (Below.refl _ _)
          exact rel_val (v := .slice (some ⟨wx.heap.size, 0, none⟩) 1 1) (w' := wx.alloc (.cells Cb 46)) (run_build_op rfl (by simp [Act.eval, e0]) CbS.out) ⟨wx.heap.size, rfl, Bx.new _ _ _⟩ bw (fun h => by cases h)
        · refine grd_none rfl ?_
          obtain ⟨gn, e0, xb⟩ := hdep ⟨4, .data⟩ (by simp) rfl
          have e0 := slot_eq e0
          refine rel_call (f := 36) (args := #[.slice (some ⟨gn, 0, none⟩) 1 1]) (run_go_call Tryz.func36 (by kernel_rfl) (by kernel_rfl) _ _ _ _ _ _ _ _ _ _ (by simp [Act.eval, e0])) rfl ?_
          refine (one_PrintGrades gb wx (HE.out.below (HB.out.trans (hE.mono HB.out.size))) gn xb (GdAt.keep HGB.out (HB.out.trans (hE.mono HB.out.size))) HKB.out).mono ?_
          rintro e w' ⟨rfl, hb2⟩
          exact ⟨_, rfl, rfl, hb2⟩
        · refine grd_none rfl ?_
          have e0 := slot_eq (hdep ⟨2, .data⟩ (by simp) rfl)
          have e1 := slot_eq (hdep ⟨5, .data⟩ (by simp) rfl)
          exact rel_pure _ rfl rfl (by simp [go_sem, e0, e1, HT.out])
        · refine grd_none rfl ?_
          have e0 := slot_eq (hdep ⟨6, .data⟩ (by simp) rfl)
          exact rel_pure _ rfl rfl (by simp [go_sem, e0])
        · refine grd_yes (j := 7) (b := true) rfl (hdep ⟨7, .guard⟩ (by simp) rfl) ?_
          have e0 := slot_eq (hag 2 rfl)
          exact rel_pure _ rfl rfl (by simp [go_sem, e0])
        · refine grd_yes (j := 7) (b := true) rfl (hdep ⟨7, .guard⟩ (by simp) rfl) ?_
          have e0 := slot_eq (hdep ⟨8, .data⟩ (by simp) rfl)
          have hq : wx.cell? ⟨p2, 0, none⟩ = some (.int .i64 ka) := by rw [(X2.out.keep hE).all.1]; exact HC.out.1
          exact rel_pure _ rfl rfl (by simp [go_sem, e0, hq])
        · refine grd_yes (j := 7) (b := true) rfl (hdep ⟨7, .guard⟩ (by simp) rfl) ?_
          have e0 := slot_eq (hag 3 rfl)
          exact rel_pure _ rfl rfl (by simp [go_sem, e0])
        · refine grd_yes (j := 7) (b := true) rfl (hdep ⟨7, .guard⟩ (by simp) rfl) ?_
          have e0 := slot_eq (hdep ⟨10, .data⟩ (by simp) rfl)
          have hq : wx.cell? ⟨p3, 0, none⟩ = some (.int .i64 kb) := by rw [(X3.out.keep hE).all.1]; exact HC.out.2
          exact rel_pure _ rfl rfl (by simp [go_sem, e0, hq])
        · refine grd_yes (j := 7) (b := true) rfl (hdep ⟨7, .guard⟩ (by simp) rfl) ?_
          have e0 := slot_eq (hdep ⟨9, .data⟩ (by simp) rfl)
          have e1 := slot_eq (hdep ⟨11, .data⟩ (by simp) rfl)
          exact rel_pure _ rfl rfl (by simp [go_sem, e0, e1, HKE.out])
        · refine grd_none rfl ?_
          have e0 := slot_eq (hdep ⟨7, .data⟩ (by simp) rfl)
          have e1 := slot_eq (hdep ⟨12, .data⟩ (by simp) rfl)
          exact rel_pure _ rfl rfl (by simp [go_sem, e0, e1])
      · intro t op ht hlt; cases hlt
      · intro vs w6 hE6 hA hne
        have k0 : vs 0 = (.agg Ca) := hA 0 (by omega)
        have k2 : vs 2 = (.string (linesG [ga])) := hA 2 (by omega)
        have k3 : vs 3 = (.agg Cb) := hA 3 (by omega)
        have k5 : vs 5 = (.string (linesG [gb])) := hA 5 (by omega)
        have k6 : vs 6 = (.bool true) := hA 6 (by omega)
        have k7 : vs 7 = (.bool true) := hA 7 (by omega)
        have k8 : vs 8 = (.pointer (some ⟨p2, 0, none⟩)) := hA 8 (by omega)
        have k9 : vs 9 = (.int .i64 ka) := hA 9 (by omega)
        have k10 : vs 10 = (.pointer (some ⟨p3, 0, none⟩)) := hA 10 (by omega)
        have k11 : vs 11 = (.int .i64 kb) := hA 11 (by omega)
        have k12 : vs 12 = (.bool true) := hA 12 (by omega)
        have k13 : vs 13 = (.bool true) := hA 13 (by omega)
        simp only [List.drop_succ_cons, List.drop_zero, putAll, dstAt, List.getElem?_toArray, List.getElem?_cons_zero, List.getElem?_cons_succ, Option.bind_some, Act.put, List.setIfInBounds_toArray, List.set_cons_zero, List.set_cons_succ, k0, k2, k3, k5, k6, k7, k8, k9, k10, k11, k12, k13]
        generalize vs 1 = u1 at *
        generalize vs 4 = u4 at *
        have HF := Lib.hid (HB.out.trans (hE6.mono HB.out.size))
        clear hA hne hE6 k0 k2 k3 k5 k6 k7 k8 k9 k10 k11 k12 k13
        go_wp2_with fail
        go_ret
        exact ⟨ret_bool' (by unfold sameG; rw [HT.out, HKA2.out, HKB2.out, HKE.out]; rfl), HF.out⟩
end Go.Proofs.YticekgnmiaidjaaGreatDoor
