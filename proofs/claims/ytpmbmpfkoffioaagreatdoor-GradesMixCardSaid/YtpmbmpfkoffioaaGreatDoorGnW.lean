/- dyeref1.Between. (printed by gen_gnw.py) -/
import Derived.Test.YtpmbmpfkoffioaaGreatDoorGnZ
namespace Go.Proofs.YtpmbmpfkoffioaaGreatDoor
open Go.RowKit Go.Lib

set_option maxRecDepth 100000 in
set_option maxHeartbeats 64000000 in
theorem ref_Between (Ca Cb : Array Value) (a b : Gd) (t : Nat) (W : World) (hA : GdAt W Ca a) (hB : GdAt W Cb b) : Calls Tryz.prog 6 #[.agg Ca, .agg Cb, .float .f32 t] W fun e w' => BetIs a b t W e w' := by
  have HA := Lib.hid hA
  have HB := Lib.hid hB
  clear hA hB
  go_enter Tryz.func6, Tryz.ntmps6
  go_upto_region 1 with fail
  refine name_world ?_
  intro W1 hW1
  have hs0 : (W.alloc (.cells Ca 37)).heap.size = W.heap.size + 1 := Array.size_push _
  have hs1 : ((W.alloc (.cells Ca 37)).alloc (.cells Cb 37)).heap.size = W.heap.size + 1 + 1 := (Array.size_push _).trans (by rw [hs0])
  have hs2 : (((W.alloc (.cells Ca 37)).alloc (.cells Cb 37)).alloc (.cells #[.float .f32 t] 22)).heap.size = W.heap.size + 1 + 1 + 1 := (Array.size_push _).trans (by rw [hs1])
  have x3 : Bx W1 W.heap.size 37 Ca := by rw [hW1]; exact (((Bx.new W 37 Ca).keep (bnew (ob := .cells Cb 37) (Below.refl _ _))).keep (bnew (ob := .cells #[.float .f32 t] 22) (Below.refl _ _))).keep (bnew (Below.refl _ _))
  have x4 : Bx W1 (W.alloc (.cells Ca 37)).heap.size 37 Cb := by rw [hW1]; exact ((Bx.new (W.alloc (.cells Ca 37)) 37 Cb).keep (bnew (ob := .cells #[.float .f32 t] 22) (Below.refl _ _))).keep (bnew (Below.refl _ _))
  have x5 : Bx W1 ((W.alloc (.cells Ca 37)).alloc (.cells Cb 37)).heap.size 22 #[.float .f32 t] := by rw [hW1]; exact (Bx.new ((W.alloc (.cells Ca 37)).alloc (.cells Cb 37)) 22 #[.float .f32 t]).keep (bnew (Below.refl _ _))
  have x6 : Bx W1 (((W.alloc (.cells Ca 37)).alloc (.cells Cb 37)).alloc (.cells #[.float .f32 t] 22)).heap.size 37 zeroGr := by rw [hW1]; exact Bx.new _ _ _
  have HW1 : Hid (Below W.heap.size W W1) := Lib.hid (by rw [hW1]; exact bnew (bnew (ob := .cells #[.float .f32 t] 22) (bnew (ob := .cells Cb 37) (bnew (ob := .cells Ca 37) (Below.refl _ _)))))
  rw [hs0] at x4
  rw [hs1] at x5
  rw [hs2] at x6
  obtain ⟨p3, hp3⟩ : ∃ p, W.heap.size = p := ⟨_, rfl⟩
  obtain ⟨p4, hp4⟩ : ∃ p, p3 + 1 = p := ⟨_, rfl⟩
  obtain ⟨p5, hp5⟩ : ∃ p, p4 + 1 = p := ⟨_, rfl⟩
  obtain ⟨p6, hp6⟩ : ∃ p, p5 + 1 = p := ⟨_, rfl⟩
  rw [hp3] at x3 x4 x5 x6
  rw [hp4] at x4 x5 x6
  rw [hp5] at x5 x6
  rw [hp6] at x6
  try rw [hp3]
  try rw [hp4]
  try rw [hp5]
  try rw [hp6]
  have X3 := Lib.hid x3
  have X4 := Lib.hid x4
  have X5 := Lib.hid x5
  have X6 := Lib.hid x6
  have HP := Lib.hid (And.intro hp3 (And.intro hp4 (And.intro hp5 hp6)))
  clear hW1 hs0 hs1 hs2 hp3 hp4 hp5 hp6 x3 x4 x5 x6
  have HL3 : Hid (∀ w, Below W1.heap.size W1 w → ∀ (j : Nat) (v : Value), Ca[j]? = some v → w.cell? ⟨p3, 0 + j, none⟩ = some v) := Lib.hid (fun w h j v hj => by rw [(X3.out.keep h).all.1, Nat.zero_add]; exact hj)
  have HL4 : Hid (∀ w, Below W1.heap.size W1 w → ∀ (j : Nat) (v : Value), Cb[j]? = some v → w.cell? ⟨p4, 0 + j, none⟩ = some v) := Lib.hid (fun w h j v hj => by rw [(X4.out.keep h).all.1, Nat.zero_add]; exact hj)
  have SA : Hid ((Tryz.prog.info? 37).map (·.size) = some Ca.size) := Lib.hid (by rw [HA.out.size]; exact grade_size)
  have SB : Hid ((Tryz.prog.info? 37).map (·.size) = some Cb.size) := Lib.hid (by rw [HB.out.size]; exact grade_size)
  obtain ⟨E1, hE1⟩ : ∃ E, gradeErr a = E := ⟨_, rfl⟩
  obtain ⟨E2, hE2⟩ : ∃ E, gradeErr b = E := ⟨_, rfl⟩
  have HE1 := Lib.hid hE1
  have HE2 := Lib.hid hE2
  clear hE1 hE2
  refine wp_region_inv 7 (fun qz u' => if qz = 4 then True else u' = [(.agg Ca), (.int .i64 E1), (.agg Cb), (.int .i64 E2), undef, (.int .i64 (firstL [E1, E2])), (.int .i64 (firstL [E1, E2]))].getD qz undef) (fun d vs w' => Below W1.heap.size W1 w' ∧ (d 4 = true → ∃ gn, vs 4 = .slice (some ⟨gn, 0, none⟩) 2 2 ∧ Bx w' gn 39 #[.int .i64 E1, .int .i64 E2])) (by kernel_rfl) (by kernel_rfl) ?_ ?_ ?_
  · intro vs
    exact ⟨(Below.refl _ _).drew, fun e => (by cases e)⟩
  · intro iq oq hi ho
    rcases (by omega : iq = 0 ∨ iq = 1 ∨ iq = 2 ∨ iq = 3 ∨ iq = 4 ∨ iq = 5 ∨ iq = 6) with rfl | rfl | rfl | rfl | rfl | rfl | rfl
    all_goals simp only [List.getElem?_cons_zero, List.getElem?_cons_succ, Option.some.injEq] at ho
    all_goals subst ho
    all_goals intro d a0 wx hI hag hdep hun
    · have e0 := slot_eq (hag 3 rfl)
      exact inv_val (v := .agg Ca) (run_load_op (b := p3) (f := 0) rfl (by simp [Act.eval, e0]) Ca (HL3.out wx hI.1) _ Tryz.underlying37 rfl SA.out) (fun h => (by cases h)) rfl hI
    · have e0 := slot_eq (hdep ⟨0, .data⟩ (by simp) rfl).1
      refine inv_call (f := 16) (args := #[.agg Ca]) (run_go_call Tryz.func16 (by kernel_rfl) (by kernel_rfl) _ _ _ _ _ _ _ _ _ _ (by simp [Act.eval, e0])) (fun h => (by cases h)) ?_
      refine (ref_GradeError Ca a wx (HA.out.keep (HW1.out.trans (hI.1.mono HW1.out.size)))).mono ?_
      rintro e w' ⟨rfl, hb⟩
      rw [HE1.out]
      exact ⟨_, rfl, rfl, ⟨bcall hI.1 hb, fun e => (by obtain ⟨gn, f1, f2⟩ := hI.2 e; exact ⟨gn, f1, f2.keep hb⟩)⟩⟩
    · have e0 := slot_eq (hag 4 rfl)
      exact inv_val (v := .agg Cb) (run_load_op (b := p4) (f := 0) rfl (by simp [Act.eval, e0]) Cb (HL4.out wx hI.1) _ Tryz.underlying37 rfl SB.out) (fun h => (by cases h)) rfl hI
    · have e0 := slot_eq (hdep ⟨2, .data⟩ (by simp) rfl).1
      refine inv_call (f := 16) (args := #[.agg Cb]) (run_go_call Tryz.func16 (by kernel_rfl) (by kernel_rfl) _ _ _ _ _ _ _ _ _ _ (by simp [Act.eval, e0])) (fun h => (by cases h)) ?_
      refine (ref_GradeError Cb b wx (HB.out.keep (HW1.out.trans (hI.1.mono HW1.out.size)))).mono ?_
      rintro e w' ⟨rfl, hb⟩
      rw [HE2.out]
      exact ⟨_, rfl, rfl, ⟨bcall hI.1 hb, fun e => (by obtain ⟨gn, f1, f2⟩ := hI.2 e; exact ⟨gn, f1, f2.keep hb⟩)⟩⟩
    · have e0 := slot_eq (hdep ⟨1, .data⟩ (by simp) rfl).1
      have e1 := slot_eq (hdep ⟨3, .data⟩ (by simp) rfl).1
      have hb : Below wx.heap.size wx (wx.alloc (.cells #[.int .i64 E1, .int .i64 E2] 39)) := bnew (Below.refl _ _)
      exact inv_val (v := .slice (some ⟨wx.heap.size, 0, none⟩) 2 2) (w' := wx.alloc (.cells #[.int .i64 E1, .int .i64 E2] 39)) (by simp [go_sem, e0, e1]) (fun h => (by cases h)) trivial ⟨bcall hI.1 hb, fun _ => ⟨_, rfl, Bx.new _ _ _⟩⟩
    · obtain ⟨gn, hv, hx⟩ := hI.2 (hdep ⟨4, .data⟩ (by simp) rfl).2
      have e0 := slot_eq hv
      refine inv_call (f := 15) (args := #[.slice (some ⟨gn, 0, none⟩) 2 2]) (run_go_call Tryz.func15 (by kernel_rfl) (by kernel_rfl) _ _ _ _ _ _ _ _ _ _ (by simp [Act.eval, e0])) (fun h => (by cases h)) ?_
      refine (ref_FirstL [E1, E2] gn 2 2 39 wx rfl (by omega) hx).mono ?_
      rintro e w' ⟨rfl, hb⟩
      exact ⟨_, rfl, rfl, ⟨bcall hI.1 hb, fun e => (by obtain ⟨gn, f1, f2⟩ := hI.2 e; exact ⟨gn, f1, f2.keep hb⟩)⟩⟩
    · have e0 := slot_eq (hdep ⟨5, .data⟩ (by simp) rfl).1
      exact inv_val (v := (.int .i64 (firstL [E1, E2]))) (by simp [go_sem, e0]) (fun h => (by cases h)) rfl hI
  · intro d vs w6 hd hI hA
    have k0 : vs 0 = (.agg Ca) := hA 0 (by omega)
    have k1 : vs 1 = (.int .i64 E1) := hA 1 (by omega)
    have k2 : vs 2 = (.agg Cb) := hA 2 (by omega)
    have k3 : vs 3 = (.int .i64 E2) := hA 3 (by omega)
    have k5 : vs 5 = (.int .i64 (firstL [E1, E2])) := hA 5 (by omega)
    have k6 : vs 6 = (.int .i64 (firstL [E1, E2])) := hA 6 (by omega)
    simp only [putAll, dstAt, List.getElem?_toArray, List.getElem?_cons_zero, List.getElem?_cons_succ, Option.bind_some, Option.bind_none, Act.put, List.setIfInBounds_toArray, List.set_cons_zero, List.set_cons_succ, k0, k1, k2, k3, k5, k6]
    have HB1 : Hid (Below W1.heap.size W1 w6) := Lib.hid hI.1
    have HF := Lib.hid HE1
    generalize vs 4 = ux4 at *
    clear hI hA hd k0 k1 k2 k3 k5 k6
    have hfl : firstL [E1, E2] = if E1 ≠ 0 then E1 else E2 := by
      unfold firstL
      by_cases h : E1 = 0
      · rw [if_pos h, if_neg (by omega)]
        unfold firstL
        split
        · rename_i h2; rw [h2]; rfl
        · rfl
      · rw [if_neg h, if_pos h]
    rw [hfl]
    obtain ⟨EF, hEF⟩ : ∃ E, (if E1 ≠ 0 then E1 else E2) = E := ⟨_, rfl⟩
    rw [hEF]
    have HEF := Lib.hid hEF
    clear hfl hEF
    by_cases e0 : EF = 0
    · have HR : Hid (gradeErr a = 0 ∧ gradeErr b = 0) := Lib.hid (by
        rw [HE1.out, HE2.out]
        have h := HEF.out
        by_cases h1 : E1 = 0
        · rw [if_neg (by omega)] at h; exact ⟨h1, h.trans e0⟩
        · rw [if_pos h1] at h; omega)
      subst e0
      obtain ⟨ka, hka⟩ : ∃ k, a.kind = k := ⟨_, rfl⟩
      obtain ⟨kb, hkb⟩ : ∃ k, b.kind = k := ⟨_, rfl⟩
      have q30 : w6.cell? ⟨p3, 0, none⟩ = some (.int .i64 ka) := by rw [(X3.out.keep HB1.out).all.1, HA.out.kind, hka]
      have q40 : w6.cell? ⟨p4, 0, none⟩ = some (.int .i64 kb) := by rw [(X4.out.keep HB1.out).all.1, HB.out.kind, hkb]
      obtain ⟨cf, hcf⟩ : ∃ f : Nat → Bool, f = fun i => !((cvAt a i).kind == (cvAt b i).kind) || !((cvAt a i).xs.length == (cvAt b i).xs.length) := ⟨_, rfl⟩
      have HCF : Hid (confB a b = (!(ka == kb) || (List.range 4).any cf)) := Lib.hid (by unfold confB; rw [hka, hkb, hcf])
      have HCI : Hid (∀ i, cf i = (!((cvAt a i).kind == (cvAt b i).kind) || !((cvAt a i).xs.length == (cvAt b i).xs.length))) := Lib.hid (fun i => by rw [hcf])
      have HKA := Lib.hid hka
      clear hka hkb hcf
      go_wp2_with fail
      clear q30 q40
      go_loopw [9, 40] (fun s9 i wr => ∃ (j : Nat) (cb : Bool), j ≤ 4 ∧ i = .int .i64 (j : Int) ∧ s9 = .bool cb ∧ Hid ((!(ka == kb) || (List.range j).any cf) = cb) ∧ Hid (Below W1.heap.size W1 wr)) (fun _ i _ => 4 - (RowKit.intOf i).toNat)
      case atStart => exact ⟨0, _, by omega, rfl, rfl, Lib.hid (by rw [show (List.range 0).any cf = false from rfl, Bool.or_false]; rfl), HB1⟩
      case round =>
        obtain ⟨j, cb, hj, rfl, rfl, HS, HBj⟩ := hrel
        by_cases hlj : j < 4
        · obtain ⟨c, hc⟩ : ∃ c, a.cvs[j]? = some c := ⟨_, List.getElem?_eq_getElem (by have := HA.out.cvs.1; omega)⟩
          obtain ⟨d3, hd3⟩ : ∃ d, b.cvs[j]? = some d := ⟨_, List.getElem?_eq_getElem (by have := HB.out.cvs.1; omega)⟩
          obtain ⟨xa, xc, ua, uc, _, slx, slu, m0, m1, m2⟩ := curve_cells HA.out X3.out hc
          obtain ⟨ya, yc, va, vc, _, sly, slv, m3, m4, m5⟩ := curve_cells HB.out X4.out hd3
          obtain ⟨cka, hcka⟩ : ∃ n, c.kind = n := ⟨_, rfl⟩
          obtain ⟨ckb, hckb⟩ : ∃ n, d3.kind = n := ⟨_, rfl⟩
          obtain ⟨nx, hnx⟩ : ∃ n, c.xs.length = n := ⟨_, rfl⟩
          obtain ⟨nu, hnu⟩ : ∃ n, c.ys.length = n := ⟨_, rfl⟩
          obtain ⟨ny, hny⟩ : ∃ n, d3.xs.length = n := ⟨_, rfl⟩
          obtain ⟨nv, hnv⟩ : ∃ n, d3.ys.length = n := ⟨_, rfl⟩
          rw [hcka] at m0
          rw [hckb] at m3
          rw [hnx] at m1 slx
          rw [hnu] at m2 slu
          rw [hny] at m4 sly
          rw [hnv] at m5 slv
          have RA3 : Hid (∀ w, Below wr.heap.size wr w → w.cell? ⟨p3, 20 + j * 3, none⟩ = some (.int .i64 cka) ∧ w.cell? ⟨p3, 20 + j * 3 + 1, none⟩ = some (.slice xa nx xc) ∧ w.cell? ⟨p3, 20 + j * 3 + 2, none⟩ = some (.slice ua nu uc)) := Lib.hid (fun w h => by
            have hx := (X3.out.keep (HBj.out)).keep h
            exact ⟨by rw [hx.all.1]; exact m0, by rw [hx.all.1]; exact m1, by rw [hx.all.1]; exact m2⟩)
          have RB3 : Hid (∀ w, Below wr.heap.size wr w → w.cell? ⟨p4, 20 + j * 3, none⟩ = some (.int .i64 ckb) ∧ w.cell? ⟨p4, 20 + j * 3 + 1, none⟩ = some (.slice ya ny yc) ∧ w.cell? ⟨p4, 20 + j * 3 + 2, none⟩ = some (.slice va nv vc)) := Lib.hid (fun w h => by
            have hx := (X4.out.keep (HBj.out)).keep h
            exact ⟨by rw [hx.all.1]; exact m3, by rw [hx.all.1]; exact m4, by rw [hx.all.1]; exact m5⟩)
          have HST : Hid ((!(ka == kb) || (List.range (j + 1)).any cf) = (cb || (!(cka == ckb) || !(nx == ny)))) := Lib.hid (by
            have e1 : cvAt a j = c := by unfold cvAt; rw [List.getD_eq_getElem?_getD, hc]; rfl
            have e2 : cvAt b j = d3 := by unfold cvAt; rw [List.getD_eq_getElem?_getD, hd3]; rfl
            rw [List.range_succ, List.any_append, ← Bool.or_assoc, HS.out]
            simp only [List.any_cons, List.any_nil, Bool.or_false]
            rw [HCI.out j, e1, e2, hcka, hckb, hnx, hny])
          have hd1 : decide ((j : Int) < 4) = true := decide_eq_true (by omega)
          clear hc hd3 slx slu sly slv m0 m1 m2 m3 m4 m5 hcka hckb hnx hnu hny hnv
          go_upto_region 8 with fail
          clear hd1
          refine wp_region_inv 12 (fun qz u' => if qz = 8 then True else if qz = 9 then True else u' = [(.int .i64 (j : Int)), (.pointer (some ⟨p3, 20, none⟩)), (.pointer (some ⟨p3, 20 + j * 3, none⟩)), (.agg #[.int .i64 cka, .slice xa nx xc, .slice ua nu uc]), (.int .i64 (j : Int)), (.pointer (some ⟨p4, 20, none⟩)), (.pointer (some ⟨p4, 20 + j * 3, none⟩)), (.agg #[.int .i64 ckb, .slice ya ny yc, .slice va nv vc]), undef, undef, undef, undef].getD qz undef) (fun d vs w' => TwoC wr #[.int .i64 cka, .slice xa nx xc, .slice ua nu uc] #[.int .i64 ckb, .slice ya ny yc, .slice va nv vc] (d 8) (d 9) (d 10) (d 11) (vs 8) (vs 9) w') (by kernel_rfl) (by kernel_rfl) ?_ ?_ ?_
          · intro vs
            exact TwoC.keep (TwoC.start wr _ _ _ _) ((Below.refl _ _).drew)
          · intro iq oq hi ho
            rcases (by omega : iq = 0 ∨ iq = 1 ∨ iq = 2 ∨ iq = 3 ∨ iq = 4 ∨ iq = 5 ∨ iq = 6 ∨ iq = 7 ∨ iq = 8 ∨ iq = 9 ∨ iq = 10 ∨ iq = 11) with rfl | rfl | rfl | rfl | rfl | rfl | rfl | rfl | rfl | rfl | rfl | rfl
            all_goals simp only [List.getElem?_cons_zero, List.getElem?_cons_succ, Option.some.injEq] at ho
            all_goals subst ho
            all_goals intro d a0 wx hI hag hdep hun
            · have e0 := slot_eq (hag 10 rfl)
              exact inv_val (v := (.int .i64 (j : Int))) (by simp [go_sem, e0]) (fun h => (by cases h)) rfl hI
            · have e0 := slot_eq (hag 3 rfl)
              exact inv_val (v := (.pointer (some ⟨p3, 20, none⟩))) (by simp [go_sem, e0]) (fun h => (by cases h)) rfl hI
            · have z1 : (j : Int) < 4 := by omega
              have e0 := slot_eq (hdep ⟨1, .data⟩ (by simp) rfl).1
              have e1 := slot_eq (hdep ⟨0, .data⟩ (by simp) rfl).1
              exact inv_val (v := (.pointer (some ⟨p3, 20 + j * 3, none⟩))) (by simp [go_sem, e0, e1, z1, hlj]) (fun h => (by cases h)) rfl hI
            · have hr := hI.bel
              have h0 := RA3.out wx hr
              have e0 := slot_eq (hdep ⟨2, .data⟩ (by simp) rfl).1
              obtain ⟨k0, k1, k2⟩ := h0
              exact inv_val (v := (.agg #[.int .i64 cka, .slice xa nx xc, .slice ua nu uc])) (by simp [go_sem, e0, k0, k1, k2]) (fun h => (by cases h)) rfl hI
            · have e0 := slot_eq (hag 10 rfl)
              exact inv_val (v := (.int .i64 (j : Int))) (by simp [go_sem, e0]) (fun h => (by cases h)) rfl hI
            · have e0 := slot_eq (hag 4 rfl)
              exact inv_val (v := (.pointer (some ⟨p4, 20, none⟩))) (by simp [go_sem, e0]) (fun h => (by cases h)) rfl hI
            · have z1 : (j : Int) < 4 := by omega
              have e0 := slot_eq (hdep ⟨5, .data⟩ (by simp) rfl).1
              have e1 := slot_eq (hdep ⟨4, .data⟩ (by simp) rfl).1
              exact inv_val (v := (.pointer (some ⟨p4, 20 + j * 3, none⟩))) (by simp [go_sem, e0, e1, z1, hlj]) (fun h => (by cases h)) rfl hI
            · have hr := hI.bel
              have h0 := RB3.out wx hr
              have e0 := slot_eq (hdep ⟨6, .data⟩ (by simp) rfl).1
              obtain ⟨k0, k1, k2⟩ := h0
              exact inv_val (v := (.agg #[.int .i64 ckb, .slice ya ny yc, .slice va nv vc])) (by simp [go_sem, e0, k0, k1, k2]) (fun h => (by cases h)) rfl hI
            · exact inv_val (v := .pointer (some ⟨wx.heap.size, 0, none⟩)) (w' := wx.alloc (.cells #[.int .i64 0, .slice none 0 0, .slice none 0 0] 30)) (by simp [go_sem]) (fun h => (by cases h)) trivial (TwoC.set8 hI hun)
            · exact inv_val (v := .pointer (some ⟨wx.heap.size, 0, none⟩)) (w' := wx.alloc (.cells #[.int .i64 0, .slice none 0 0, .slice none 0 0] 30)) (by simp [go_sem]) (fun h => (by cases h)) trivial (TwoC.set9 hI hun)
            · obtain ⟨pp, hv, hx⟩ := hI.b8 (hdep ⟨8, .data⟩ (by simp) rfl).2
              have e0 := slot_eq hv
              have e1 := slot_eq (hdep ⟨3, .data⟩ (by simp) rfl).1
              rw [hun, if_neg (by decide)] at hx
              have hx4 := hx.all
              have c0 := hx4.1 0
              have c1 := hx4.1 1
              have c2 := hx4.1 2
              have hfz := hx4.2.1
              simp only [List.getElem?_toArray, List.getElem?_cons_zero, List.getElem?_cons_succ] at c0 c1 c2
              have hS := TwoC.set10 hI hv (hdep ⟨8, .data⟩ (by simp) rfl).2 hun
              refine inv_skip (w' := ((wx.setCell ⟨pp, 0, none⟩ _).setCell ⟨pp, 1, none⟩ _).setCell ⟨pp, 2, none⟩ _) ?_ rfl hS
              clear hS hI hag hdep hx hx4 hv
              simp [go_sem, e0, e1, c0, c1, c2, hfz]
            · obtain ⟨pp, hv, hx⟩ := hI.b9 (hdep ⟨9, .data⟩ (by simp) rfl).2
              have e0 := slot_eq hv
              have e1 := slot_eq (hdep ⟨7, .data⟩ (by simp) rfl).1
              rw [hun, if_neg (by decide)] at hx
              have hx4 := hx.all
              have c0 := hx4.1 0
              have c1 := hx4.1 1
              have c2 := hx4.1 2
              have hfz := hx4.2.1
              simp only [List.getElem?_toArray, List.getElem?_cons_zero, List.getElem?_cons_succ] at c0 c1 c2
              have hS := TwoC.set11 hI hv (hdep ⟨9, .data⟩ (by simp) rfl).2 hun
              refine inv_skip (w' := ((wx.setCell ⟨pp, 0, none⟩ _).setCell ⟨pp, 1, none⟩ _).setCell ⟨pp, 2, none⟩ _) ?_ rfl hS
              clear hS hI hag hdep hx hx4 hv
              simp [go_sem, e0, e1, c0, c1, c2, hfz]
          · intro d vs wz hd hI hA
            have k0 : vs 0 = (.int .i64 (j : Int)) := hA 0 (by omega)
            have k1 : vs 1 = (.pointer (some ⟨p3, 20, none⟩)) := hA 1 (by omega)
            have k2 : vs 2 = (.pointer (some ⟨p3, 20 + j * 3, none⟩)) := hA 2 (by omega)
            have k3 : vs 3 = (.agg #[.int .i64 cka, .slice xa nx xc, .slice ua nu uc]) := hA 3 (by omega)
            have k4 : vs 4 = (.int .i64 (j : Int)) := hA 4 (by omega)
            have k5 : vs 5 = (.pointer (some ⟨p4, 20, none⟩)) := hA 5 (by omega)
            have k6 : vs 6 = (.pointer (some ⟨p4, 20 + j * 3, none⟩)) := hA 6 (by omega)
            have k7 : vs 7 = (.agg #[.int .i64 ckb, .slice ya ny yc, .slice va nv vc]) := hA 7 (by omega)
            simp only [putAll, dstAt, List.getElem?_toArray, List.getElem?_cons_zero, List.getElem?_cons_succ, Option.bind_some, Option.bind_none, Act.put, List.setIfInBounds_toArray, List.set_cons_zero, List.set_cons_succ, k0, k1, k2, k3, k4, k5, k6, k7]
            have hI6 : TwoC wr #[.int .i64 cka, .slice xa nx xc, .slice ua nu uc] #[.int .i64 ckb, .slice ya ny yc, .slice va nv vc] true true true true (vs 8) (vs 9) wz := by
              have h := hI
              simp only [hd 8 (by omega), hd 9 (by omega), hd 10 (by omega), hd 11 (by omega)] at h
              exact h
            obtain ⟨pA, hvA, hxA⟩ := hI6.b8 rfl
            obtain ⟨pB, hvB, hxB⟩ := hI6.b9 rfl
            rw [hvA, hvB]
            rw [if_pos rfl] at hxA hxB
            have XA := Lib.hid hxA
            have XB := Lib.hid hxB
            have HTW := Lib.hid hI6.bel
            clear hI hA hd k0 k1 k2 k3 k4 k5 k6 k7 hI6 hvA hvB hxA hxB
            have HBZ : Hid (Below W1.heap.size W1 wz) := Lib.hid (HBj.out.trans (HTW.out.mono HBj.out.size))
            have r0 := XA.out.all.1 0
            have r1 := XA.out.all.1 1
            have r2 := XB.out.all.1 0
            have r3 := XB.out.all.1 1
            simp only [List.getElem?_toArray, List.getElem?_cons_zero, List.getElem?_cons_succ] at r0 r1 r2 r3
            cases cb
            · by_cases h1 : cka = ckb
              · subst h1
                by_cases h2 : nx = ny
                · subst h2
                  go_wp2_with fail
                  go_roundw
                  case rel => exact ⟨j + 1, false, by omega, by go_num, rfl, Lib.hid (by rw [HST.out]; simp), HBZ⟩
                  case measure => simp [RowKit.intOf]; omega
                · have h2i : ¬ (nx : Int) = (ny : Int) := by omega
                  have h2b : ((nx : Int) != (ny : Int)) = true := by simpa using h2i
                  go_wp2_with fail
                  go_roundw
                  case rel => exact ⟨j + 1, true, by omega, by go_num, rfl, Lib.hid (by rw [HST.out]; simp [h2]), HBZ⟩
                  case measure => simp [RowKit.intOf]; omega
              · have h1b : (cka != ckb) = true := by simpa using h1
                go_wp2_with fail
                go_roundw
                case rel => exact ⟨j + 1, true, by omega, by go_num, rfl, Lib.hid (by rw [HST.out]; simp [h1]), HBZ⟩
                case measure => simp [RowKit.intOf]; omega
            · clear r0 r1 r2 r3
              go_wp2_with fail
              go_roundw
              case rel => exact ⟨j + 1, true, by omega, by go_num, rfl, Lib.hid (by rw [HST.out]; rfl), HBZ⟩
              case measure => simp [RowKit.intOf]; omega
        · obtain rfl : j = 4 := by omega
          have HCB : Hid (confB a b = cb) := Lib.hid (HCF.out.trans HS.out)
          rw [show ((4 : Nat) : Int) = 4 from rfl]
          clear HS HCF
          obtain ⟨wq, hwq⟩ : ∃ wq, wr = wq := ⟨_, rfl⟩
          rw [hwq] at HBj ⊢
          clear hwq hj hlj
          cases cb
          · have r5 : wq.cell? ⟨p5, 0, none⟩ = some (.float .f32 t) := (X5.out.keep HBj.out).all.1 0
            go_wp2_with fail
            refine (ref_IsNumber t wq).mono ?_
            rintro e w2 ⟨rfl, hb2⟩
            have HB2 : Hid (Below W1.heap.size W1 w2) := Lib.hid (bcall HBj.out hb2)
            clear r5 hb2
            have r5 : w2.cell? ⟨p5, 0, none⟩ = some (.float .f32 t) := (X5.out.keep HB2.out).all.1 0
            cases hnt : isNum t
            · have HBE : Hid (betErr a b t = 2) := Lib.hid (by unfold betErr; rw [if_neg (by rw [HR.out.1]; decide), if_neg (by rw [HR.out.2]; decide), if_neg (by rw [HCB.out]; decide), if_pos hnt])
              simp only [Bool.not_false]
              have HX6 := Lib.hid (X6.out.keep HB2.out)
              go_wp2_with (refine wpList_store_rowG rfl (.tmp 6) (.tmp 74) rfl p6 zeroGr rfl rfl HX6.out zeroGr_ok.1 zeroGr_ok.1 zeroGr_ok.2.1 ?_)
              have XZ : Bx ((w2 : World).setRow p6 zeroGr) p6 37 zeroGr := setRow_heap _ p6 _ zeroGr 37 (0, 0) HX6.out
              refine bodyPost_ret (v := .tuple #[.agg zeroGr, .int .i64 2]) (results_two (p := 6) (q := 7) (by kernel_rfl) _ _ p6 zeroGr _ rfl rfl XZ zeroGr_ok.1) rfl (BetIs.err (HBE.out) (by decide) (below_setRow (HW1.out.trans (HB2.out.mono HW1.out.size)) (by have := HP.out; omega) zeroGr))
            · have HNT := Lib.hid hnt
              simp only [Bool.not_true]
              clear hnt
              cases ht1 : (FloatKind.f32.format.order t 0 == some .lt)
              · cases ht2 : (FloatKind.f32.format.order t 1065353216 == some .gt)
                · have HB5 : Hid (betErr a b t = gradeErr (mixG a b t)) := Lib.hid (by unfold betErr; rw [if_neg (by rw [HR.out.1]; decide), if_neg (by rw [HR.out.2]; decide), if_neg (by rw [HCB.out]; decide), if_neg (by rw [HNT.out]; decide), if_neg (by unfold outT; rw [ht1, ht2]; decide)])
                  have HAR := Lib.hid (right_of HR.out.1)
                  have HBR := Lib.hid (right_of HR.out.2)
                  have HP2 : Hid (Pair2 a b) := Lib.hid ⟨⟨HA.out.whe.1, HB.out.whe.1⟩, ⟨HA.out.lst.1, HB.out.lst.1⟩, ⟨HA.out.mix.1, HB.out.mix.1⟩, ⟨HA.out.pts.1, HB.out.pts.1⟩, ⟨HA.out.cvs.1, HB.out.cvs.1⟩, HAR.out, HBR.out, HCB.out⟩
                  obtain ⟨x5, hx5⟩ : ∃ x, a.piv = x := ⟨_, rfl⟩
                  obtain ⟨y5, hy5⟩ : ∃ x, b.piv = x := ⟨_, rfl⟩
                  obtain ⟨x6, hx6⟩ : ∃ x, a.amt = x := ⟨_, rfl⟩
                  obtain ⟨y6, hy6⟩ : ∃ x, b.amt = x := ⟨_, rfl⟩
                  obtain ⟨z5, hz5⟩ : ∃ x, lerpV x5 y5 t = x := ⟨_, rfl⟩
                  obtain ⟨z6, hz6⟩ : ∃ x, lerpV x6 y6 t = x := ⟨_, rfl⟩
                  have HZ56 := Lib.hid (And.intro hz5 hz6)
                  have R18 : Hid (∀ w, Below W1.heap.size W1 w → w.cell? ⟨p3, 0, none⟩ = some (.int .i64 ka) ∧ w.cell? ⟨p3, 44, none⟩ = some (.float .f32 x5) ∧ w.cell? ⟨p4, 44, none⟩ = some (.float .f32 y5) ∧ w.cell? ⟨p3, 45, none⟩ = some (.float .f32 x6) ∧ w.cell? ⟨p4, 45, none⟩ = some (.float .f32 y6)) := Lib.hid (fun w h => by
                    have h3 := (X3.out.keep h).all.1
                    have h4 := (X4.out.keep h).all.1
                    exact ⟨by rw [h3, HA.out.kind, HKA.out], by rw [h3, HA.out.piv, hx5], by rw [h4, HB.out.piv, hy5], by rw [h3, HA.out.amt, hx6], by rw [h4, HB.out.amt, hy6]⟩)
                  obtain ⟨S0, hS0⟩ : ∃ S : Nat → Prop, S = fun c => c = 0 ∨ c = 44 ∨ c = 45 := ⟨_, rfl⟩
                  have HS0 := Lib.hid hS0
                  have HD0 : Hid (((((zeroGr.setIfInBounds 0 (.int .i64 ka)).setIfInBounds 44 (.float .f32 z5)).setIfInBounds 45 (.float .f32 z6)) : Array Value).size = 49 ∧ ((((zeroGr.setIfInBounds 0 (.int .i64 ka)).setIfInBounds 44 (.float .f32 z5)).setIfInBounds 45 (.float .f32 z6)) : Array Value).all (·.oneCell') = true ∧ PD (mixG a b t) S0 (((zeroGr.setIfInBounds 0 (.int .i64 ka)).setIfInBounds 44 (.float .f32 z5)).setIfInBounds 45 (.float .f32 z6))) := Lib.hid (by
                    have t0 : Value.int .i64 ka = tgtF (mixG a b t) 0 := by rw [← HKA.out]; rfl
                    have t44 : Value.float .f32 z5 = tgtF (mixG a b t) 44 := by rw [← hz5, ← hx5, ← hy5]; rfl
                    have t45 : Value.float .f32 z6 = tgtF (mixG a b t) 45 := by rw [← hz6, ← hx6, ← hy6]; rfl
                    have h := (((PD.start (mixG a b t)).put (by omega : 0 < 49) t0).put (by omega : 44 < 49) t44).put (by omega : 45 < 49) t45
                    exact ⟨h.size, h.one, h.weak fun c hc => by rw [hS0] at hc; rcases hc with e | e | e <;> (first | exact .inl (.inl (.inr e)) | exact .inl (.inr e) | exact .inr e)⟩)
                  clear hx5 hy5 hx6 hy6 hz5 hz6 hS0
                  go_upto_region 18 with fail
                  clear r5 ht1 ht2
                  refine wp_region_inv 17 (fun qz u' => if qz = 15 then True else u' = [(.pointer (some ⟨p3, 0, none⟩)), (.int .i64 ka), (.func (.func 18) #[] #[.pointer (some ⟨p5, 0, none⟩)]), (.pointer (some ⟨p3, 44, none⟩)), (.float .f32 x5), (.pointer (some ⟨p4, 44, none⟩)), (.float .f32 y5), (.float .f32 z5), (.func (.func 18) #[] #[.pointer (some ⟨p5, 0, none⟩)]), (.pointer (some ⟨p3, 45, none⟩)), (.float .f32 x6), (.pointer (some ⟨p4, 45, none⟩)), (.float .f32 y6), (.float .f32 z6), (.agg (((zeroGr.setIfInBounds 0 (.int .i64 ka)).setIfInBounds 44 (.float .f32 z5)).setIfInBounds 45 (.float .f32 z6))), undef, undef].getD qz undef) (fun d vs w' => OneG W1 (((zeroGr.setIfInBounds 0 (.int .i64 ka)).setIfInBounds 44 (.float .f32 z5)).setIfInBounds 45 (.float .f32 z6)) (d 15) (d 16) (vs 15) w') (by kernel_rfl) (by kernel_rfl) ?_ ?_ ?_
                  · intro vs
                    exact OneG.start (HB2.out.trans ((Below.refl _ _).drew.mono HB2.out.size))
                  · intro iq oq hi ho
                    rcases (by omega : iq = 0 ∨ iq = 1 ∨ iq = 2 ∨ iq = 3 ∨ iq = 4 ∨ iq = 5 ∨ iq = 6 ∨ iq = 7 ∨ iq = 8 ∨ iq = 9 ∨ iq = 10 ∨ iq = 11 ∨ iq = 12 ∨ iq = 13 ∨ iq = 14 ∨ iq = 15 ∨ iq = 16) with rfl | rfl | rfl | rfl | rfl | rfl | rfl | rfl | rfl | rfl | rfl | rfl | rfl | rfl | rfl | rfl | rfl
                    all_goals simp only [List.getElem?_cons_zero, List.getElem?_cons_succ, Option.some.injEq] at ho
                    all_goals subst ho
                    all_goals intro d a0 wx hI hag hdep hun
                    · have e0 := slot_eq (hag 3 rfl)
                      exact inv_val (v := (.pointer (some ⟨p3, 0, none⟩))) (by simp [go_sem, e0]) (fun h => (by cases h)) rfl hI
                    · have r0 := (R18.out wx hI.bel).1
                      have e0 := slot_eq (hdep ⟨0, .data⟩ (by simp) rfl).1
                      exact inv_val (v := (.int .i64 ka)) (by simp [go_sem, e0, r0]) (fun h => (by cases h)) rfl hI
                    · have e0 := slot_eq (hag 13 rfl)
                      exact inv_val (v := (.func (.func 18) #[] #[.pointer (some ⟨p5, 0, none⟩)])) (by simp [go_sem, e0]) (fun h => (by cases h)) rfl hI
                    · have e0 := slot_eq (hag 3 rfl)
                      exact inv_val (v := (.pointer (some ⟨p3, 44, none⟩))) (by simp [go_sem, e0]) (fun h => (by cases h)) rfl hI
                    · have r0 := (R18.out wx hI.bel).2.1
                      have e0 := slot_eq (hdep ⟨3, .data⟩ (by simp) rfl).1
                      exact inv_val (v := (.float .f32 x5)) (by simp [go_sem, e0, r0]) (fun h => (by cases h)) rfl hI
                    · have e0 := slot_eq (hag 4 rfl)
                      exact inv_val (v := (.pointer (some ⟨p4, 44, none⟩))) (by simp [go_sem, e0]) (fun h => (by cases h)) rfl hI
                    · have r0 := (R18.out wx hI.bel).2.2.1
                      have e0 := slot_eq (hdep ⟨5, .data⟩ (by simp) rfl).1
                      exact inv_val (v := (.float .f32 y5)) (by simp [go_sem, e0, r0]) (fun h => (by cases h)) rfl hI
                    · have e0 := slot_eq (hdep ⟨2, .data⟩ (by simp) rfl).1
                      have e1 := slot_eq (hdep ⟨4, .data⟩ (by simp) rfl).1
                      have e2 := slot_eq (hdep ⟨6, .data⟩ (by simp) rfl).1
                      refine inv_call (f := 18) (args := #[.float .f32 x5, .float .f32 y5, .pointer (some ⟨p5, 0, none⟩)]) (run_go_callv (args := #[.float .f32 x5, .float .f32 y5, .pointer (some ⟨p5, 0, none⟩)]) Tryz.func18 (by kernel_rfl) (by kernel_rfl) _ _ _ _ _ _ _ _ _ _ _ e0 (by simp [Act.eval, e1, e2])) (fun h => (by cases h)) ?_
                      refine (ref_mixC x5 y5 t p5 wx (X5.out.keep hI.bel)).mono ?_
                      rintro e w' ⟨rfl, hb⟩
                      rw [HZ56.out.1]
                      exact ⟨_, rfl, rfl, OneG.keep hI hb⟩
                    · have e0 := slot_eq (hag 13 rfl)
                      exact inv_val (v := (.func (.func 18) #[] #[.pointer (some ⟨p5, 0, none⟩)])) (by simp [go_sem, e0]) (fun h => (by cases h)) rfl hI
                    · have e0 := slot_eq (hag 3 rfl)
                      exact inv_val (v := (.pointer (some ⟨p3, 45, none⟩))) (by simp [go_sem, e0]) (fun h => (by cases h)) rfl hI
                    · have r0 := (R18.out wx hI.bel).2.2.2.1
                      have e0 := slot_eq (hdep ⟨9, .data⟩ (by simp) rfl).1
                      exact inv_val (v := (.float .f32 x6)) (by simp [go_sem, e0, r0]) (fun h => (by cases h)) rfl hI
                    · have e0 := slot_eq (hag 4 rfl)
                      exact inv_val (v := (.pointer (some ⟨p4, 45, none⟩))) (by simp [go_sem, e0]) (fun h => (by cases h)) rfl hI
                    · have r0 := (R18.out wx hI.bel).2.2.2.2
                      have e0 := slot_eq (hdep ⟨11, .data⟩ (by simp) rfl).1
                      exact inv_val (v := (.float .f32 y6)) (by simp [go_sem, e0, r0]) (fun h => (by cases h)) rfl hI
                    · have e0 := slot_eq (hdep ⟨8, .data⟩ (by simp) rfl).1
                      have e1 := slot_eq (hdep ⟨10, .data⟩ (by simp) rfl).1
                      have e2 := slot_eq (hdep ⟨12, .data⟩ (by simp) rfl).1
                      refine inv_call (f := 18) (args := #[.float .f32 x6, .float .f32 y6, .pointer (some ⟨p5, 0, none⟩)]) (run_go_callv (args := #[.float .f32 x6, .float .f32 y6, .pointer (some ⟨p5, 0, none⟩)]) Tryz.func18 (by kernel_rfl) (by kernel_rfl) _ _ _ _ _ _ _ _ _ _ _ e0 (by simp [Act.eval, e1, e2])) (fun h => (by cases h)) ?_
                      refine (ref_mixC x6 y6 t p5 wx (X5.out.keep hI.bel)).mono ?_
                      rintro e w' ⟨rfl, hb⟩
                      rw [HZ56.out.2]
                      exact ⟨_, rfl, rfl, OneG.keep hI hb⟩
                    · have e0 := slot_eq (hdep ⟨1, .data⟩ (by simp) rfl).1
                      have e1 := slot_eq (hdep ⟨7, .data⟩ (by simp) rfl).1
                      have e2 := slot_eq (hdep ⟨13, .data⟩ (by simp) rfl).1
                      exact inv_val (v := (.agg (((zeroGr.setIfInBounds 0 (.int .i64 ka)).setIfInBounds 44 (.float .f32 z5)).setIfInBounds 45 (.float .f32 z6)))) (run_build_opG rfl (by simp [Act.eval, e0]) (by simp [Act.eval, e1]) (by simp [Act.eval, e2])) (fun h => (by cases h)) rfl hI
                    · exact inv_val (v := .pointer (some ⟨wx.heap.size, 0, none⟩)) (w' := wx.alloc (.cells zeroGr 37)) (by simp [go_sem]; rfl) (fun h => (by cases h)) trivial (OneG.new hI hun)
                    · obtain ⟨pp, hv, hlo, hx⟩ := hI.at_ (hdep ⟨15, .data⟩ (by simp) rfl).2
                      have e0 := slot_eq hv
                      have e1 := slot_eq (hdep ⟨14, .data⟩ (by simp) rfl).1
                      exact inv_skip (run_store_op rfl (by simp [Act.eval, e0]) (by simp [Act.eval, e1]) hx (by split <;> (first | exact HD0.out.1 | exact zeroGr_ok.1)) HD0.out.1 HD0.out.2.1) rfl (OneG.store hI (hdep ⟨15, .data⟩ (by simp) rfl).2 hv hun HD0.out.1)
                  · intro d vs wz hd hI hA
                    have k0 : vs 0 = (.pointer (some ⟨p3, 0, none⟩)) := hA 0 (by omega)
                    have k1 : vs 1 = (.int .i64 ka) := hA 1 (by omega)
                    have k2 : vs 2 = (.func (.func 18) #[] #[.pointer (some ⟨p5, 0, none⟩)]) := hA 2 (by omega)
                    have k3 : vs 3 = (.pointer (some ⟨p3, 44, none⟩)) := hA 3 (by omega)
                    have k4 : vs 4 = (.float .f32 x5) := hA 4 (by omega)
                    have k5 : vs 5 = (.pointer (some ⟨p4, 44, none⟩)) := hA 5 (by omega)
                    have k6 : vs 6 = (.float .f32 y5) := hA 6 (by omega)
                    have k7 : vs 7 = (.float .f32 z5) := hA 7 (by omega)
                    have k8 : vs 8 = (.func (.func 18) #[] #[.pointer (some ⟨p5, 0, none⟩)]) := hA 8 (by omega)
                    have k9 : vs 9 = (.pointer (some ⟨p3, 45, none⟩)) := hA 9 (by omega)
                    have k10 : vs 10 = (.float .f32 x6) := hA 10 (by omega)
                    have k11 : vs 11 = (.pointer (some ⟨p4, 45, none⟩)) := hA 11 (by omega)
                    have k12 : vs 12 = (.float .f32 y6) := hA 12 (by omega)
                    have k13 : vs 13 = (.float .f32 z6) := hA 13 (by omega)
                    have k14 : vs 14 = (.agg (((zeroGr.setIfInBounds 0 (.int .i64 ka)).setIfInBounds 44 (.float .f32 z5)).setIfInBounds 45 (.float .f32 z6))) := hA 14 (by omega)
                    simp only [putAll, dstAt, List.getElem?_toArray, List.getElem?_cons_zero, List.getElem?_cons_succ, Option.bind_some, Option.bind_none, Act.put, List.setIfInBounds_toArray, List.set_cons_zero, List.set_cons_succ, k0, k1, k2, k3, k4, k5, k6, k7, k8, k9, k10, k11, k12, k13, k14]
                    have hO := hI
                    simp only [hd 15 (by omega), hd 16 (by omega)] at hO
                    obtain ⟨p14, hv14, hlo14, hx14⟩ := hO.at_ rfl
                    rw [if_pos rfl] at hx14
                    have HOG : Hid (OG W1 (mixG a b t) p14 S0 wz) := Lib.hid ⟨_, hx14, HD0.out.2.2, hO.bel, hlo14⟩
                    rw [hv14]
                    clear hI hA hd k0 k1 k2 k3 k4 k5 k6 k7 k8 k9 k10 k11 k12 k13 k14 hO hlo14 hx14 hv14 vs d
                    go_wp2_with fail
                    go_loopw [98] (fun i wr => ∃ k : Nat, k ≤ 3 ∧ i = .int .i64 (k : Int) ∧ Hid (OG W1 (mixG a b t) p14 (SK k) wr)) (fun i _ => 3 - (RowKit.intOf i).toNat)
                    case atStart => exact ⟨0, by omega, rfl, Lib.hid (HOG.out.weak fun c hc => by rw [HS0.out]; unfold SK at hc; omega)⟩
                    case round =>
                      clear HOG HS0 HD0
                      obtain ⟨k, hk3, rfl, HOK⟩ := hrel
                      by_cases hlk : k < 3
                      · obtain ⟨x1, hx1⟩ : ∃ x, a.whe.getD k 0 = x := ⟨_, rfl⟩
                        obtain ⟨x2, hx2⟩ : ∃ x, a.whe.getD (3 + k) 0 = x := ⟨_, rfl⟩
                        obtain ⟨x3, hx3⟩ : ∃ x, a.whe.getD (6 + k) 0 = x := ⟨_, rfl⟩
                        obtain ⟨y1, hy1⟩ : ∃ x, b.whe.getD k 0 = x := ⟨_, rfl⟩
                        obtain ⟨y2, hy2⟩ : ∃ x, b.whe.getD (3 + k) 0 = x := ⟨_, rfl⟩
                        obtain ⟨y3, hy3⟩ : ∃ x, b.whe.getD (6 + k) 0 = x := ⟨_, rfl⟩
                        obtain ⟨z1, hz1⟩ : ∃ x, lerpV x1 y1 t = x := ⟨_, rfl⟩
                        obtain ⟨z2, hz2⟩ : ∃ x, lerpV x2 y2 t = x := ⟨_, rfl⟩
                        obtain ⟨z3, hz3⟩ : ∃ x, lerpV x3 y3 t = x := ⟨_, rfl⟩
                        obtain ⟨l1, hl1⟩ : ∃ x, a.lst.getD k 0 = x := ⟨_, rfl⟩
                        obtain ⟨l2, hl2⟩ : ∃ x, a.lst.getD (3 + k) 0 = x := ⟨_, rfl⟩
                        obtain ⟨l3, hl3⟩ : ∃ x, a.lst.getD (6 + k) 0 = x := ⟨_, rfl⟩
                        obtain ⟨m1, hm1⟩ : ∃ x, b.lst.getD k 0 = x := ⟨_, rfl⟩
                        obtain ⟨m2, hm2⟩ : ∃ x, b.lst.getD (3 + k) 0 = x := ⟨_, rfl⟩
                        obtain ⟨m3, hm3⟩ : ∃ x, b.lst.getD (6 + k) 0 = x := ⟨_, rfl⟩
                        obtain ⟨o1, ho1⟩ : ∃ x, lerpV l1 m1 t = x := ⟨_, rfl⟩
                        obtain ⟨o2, ho2⟩ : ∃ x, lerpV l2 m2 t = x := ⟨_, rfl⟩
                        obtain ⟨o3, ho3⟩ : ∃ x, lerpV l3 m3 t = x := ⟨_, rfl⟩
                        obtain ⟨n, hn⟩ : ∃ x, a.pts.getD k 0 = x := ⟨_, rfl⟩
                        obtain ⟨m, hm⟩ : ∃ x, b.pts.getD k 0 = x := ⟨_, rfl⟩
                        obtain ⟨cn, hcn⟩ : ∃ x, floatOfInt .f32 n = x := ⟨_, rfl⟩
                        obtain ⟨cm, hcm⟩ : ∃ x, floatOfInt .f32 m = x := ⟨_, rfl⟩
                        obtain ⟨lv, hlv⟩ : ∃ x, lerpV cn cm t = x := ⟨_, rfl⟩
                        obtain ⟨pv, hpv⟩ : ∃ x, nearP lv = x := ⟨_, rfl⟩
                        have HZ22 := Lib.hid (And.intro hz1 (And.intro hz2 hz3))
                        have HZ23 := Lib.hid (And.intro ho1 (And.intro ho2 ho3))
                        have HCN := Lib.hid (And.intro hcn (And.intro hcm (And.intro hlv hpv)))
                        have R22 : Hid (∀ w, Below W1.heap.size W1 w → (w.cell? ⟨p3, 1 + k, none⟩ = some (.float .f32 x1) ∧ w.cell? ⟨p3, 4 + k, none⟩ = some (.float .f32 x2) ∧ w.cell? ⟨p3, 7 + k, none⟩ = some (.float .f32 x3)) ∧ w.cell? ⟨p4, 1 + k, none⟩ = some (.float .f32 y1) ∧ w.cell? ⟨p4, 4 + k, none⟩ = some (.float .f32 y2) ∧ w.cell? ⟨p4, 7 + k, none⟩ = some (.float .f32 y3)) := Lib.hid (fun w h => by
                          have h3 := (X3.out.keep h).all.1
                          have h4 := (X4.out.keep h).all.1
                          exact ⟨⟨by rw [h3, HA.out.whe.2 k (by omega), hx1], by rw [h3, show 4 + k = 1 + (3 + k) by omega, HA.out.whe.2 _ (by omega), hx2], by rw [h3, show 7 + k = 1 + (6 + k) by omega, HA.out.whe.2 _ (by omega), hx3]⟩, by rw [h4, HB.out.whe.2 k (by omega), hy1], by rw [h4, show 4 + k = 1 + (3 + k) by omega, HB.out.whe.2 _ (by omega), hy2], by rw [h4, show 7 + k = 1 + (6 + k) by omega, HB.out.whe.2 _ (by omega), hy3]⟩)
                        have R23 : Hid (∀ w, Below W1.heap.size W1 w → (w.cell? ⟨p3, 10 + k, none⟩ = some (.float .f32 l1) ∧ w.cell? ⟨p3, 13 + k, none⟩ = some (.float .f32 l2) ∧ w.cell? ⟨p3, 16 + k, none⟩ = some (.float .f32 l3)) ∧ w.cell? ⟨p4, 10 + k, none⟩ = some (.float .f32 m1) ∧ w.cell? ⟨p4, 13 + k, none⟩ = some (.float .f32 m2) ∧ w.cell? ⟨p4, 16 + k, none⟩ = some (.float .f32 m3)) := Lib.hid (fun w h => by
                          have h3 := (X3.out.keep h).all.1
                          have h4 := (X4.out.keep h).all.1
                          exact ⟨⟨by rw [h3, HA.out.lst.2 k (by omega), hl1], by rw [h3, show 13 + k = 10 + (3 + k) by omega, HA.out.lst.2 _ (by omega), hl2], by rw [h3, show 16 + k = 10 + (6 + k) by omega, HA.out.lst.2 _ (by omega), hl3]⟩, by rw [h4, HB.out.lst.2 k (by omega), hm1], by rw [h4, show 13 + k = 10 + (3 + k) by omega, HB.out.lst.2 _ (by omega), hm2], by rw [h4, show 16 + k = 10 + (6 + k) by omega, HB.out.lst.2 _ (by omega), hm3]⟩)
                        have R24 : Hid (∀ w, Below W1.heap.size W1 w → w.cell? ⟨p3, 46 + k, none⟩ = some (.int .i64 n) ∧ w.cell? ⟨p4, 46 + k, none⟩ = some (.int .i64 m)) := Lib.hid (fun w h => by
                          have h3 := (X3.out.keep h).all.1
                          have h4 := (X4.out.keep h).all.1
                          exact ⟨by rw [h3, HA.out.pts.2 k (by omega), hn], by rw [h4, HB.out.pts.2 k (by omega), hm]⟩)
                        have HT22 : Hid (tgtF (mixG a b t) (1 + k) = .float .f32 z1 ∧ tgtF (mixG a b t) (4 + k) = .float .f32 z2 ∧ tgtF (mixG a b t) (7 + k) = .float .f32 z3) := Lib.hid ⟨by rw [tgt_whe HP2.out.whe (by omega), hx1, hy1, hz1], by rw [show 4 + k = 1 + (3 + k) by omega, tgt_whe HP2.out.whe (by omega), hx2, hy2, hz2], by rw [show 7 + k = 1 + (6 + k) by omega, tgt_whe HP2.out.whe (by omega), hx3, hy3, hz3]⟩
                        have HT23 : Hid (tgtF (mixG a b t) (10 + k) = .float .f32 o1 ∧ tgtF (mixG a b t) (13 + k) = .float .f32 o2 ∧ tgtF (mixG a b t) (16 + k) = .float .f32 o3) := Lib.hid ⟨by rw [tgt_lst HP2.out.lst (by omega), hl1, hm1, ho1], by rw [show 13 + k = 10 + (3 + k) by omega, tgt_lst HP2.out.lst (by omega), hl2, hm2, ho2], by rw [show 16 + k = 10 + (6 + k) by omega, tgt_lst HP2.out.lst (by omega), hl3, hm3, ho3]⟩
                        have HT24 : Hid (tgtF (mixG a b t) (46 + k) = .int .i64 pv) := Lib.hid (by rw [tgt_pts HP2.out.pts (by omega), hn, hm]; unfold ptMix; rw [hcn, hcm, hlv, hpv])
                        clear hx1 hx2 hx3 hy1 hy2 hy3 hz1 hz2 hz3 hl1 hl2 hl3 hm1 hm2 hm3 ho1 ho2 ho3 hn hm hcn hcm hlv hpv
                        have hd1 : decide ((k : Int) < 3) = true := decide_eq_true (by omega)
                        go_upto_region 22 with fail
                        clear hd1
                        refine wp_region_inv 51 (fun qz u' => u' = [(.int .i64 (k : Int)), (.int .i64 (k : Int)), (.int .i64 (k : Int)), (.func (.func 18) #[] #[.pointer (some ⟨p5, 0, none⟩)]), (.int .i64 (k : Int)), (.pointer (some ⟨p3, 1, none⟩)), (.pointer (some ⟨p3, 1, none⟩)), (.pointer (some ⟨p3, 1 + k, none⟩)), (.float .f32 x1), (.int .i64 (k : Int)), (.pointer (some ⟨p4, 1, none⟩)), (.pointer (some ⟨p4, 1, none⟩)), (.pointer (some ⟨p4, 1 + k, none⟩)), (.float .f32 y1), (.float .f32 z1), (.func (.func 18) #[] #[.pointer (some ⟨p5, 0, none⟩)]), (.int .i64 (k : Int)), (.pointer (some ⟨p3, 1, none⟩)), (.pointer (some ⟨p3, 4, none⟩)), (.pointer (some ⟨p3, 4 + k, none⟩)), (.float .f32 x2), (.int .i64 (k : Int)), (.pointer (some ⟨p4, 1, none⟩)), (.pointer (some ⟨p4, 4, none⟩)), (.pointer (some ⟨p4, 4 + k, none⟩)), (.float .f32 y2), (.float .f32 z2), (.func (.func 18) #[] #[.pointer (some ⟨p5, 0, none⟩)]), (.int .i64 (k : Int)), (.pointer (some ⟨p3, 1, none⟩)), (.pointer (some ⟨p3, 7, none⟩)), (.pointer (some ⟨p3, 7 + k, none⟩)), (.float .f32 x3), (.int .i64 (k : Int)), (.pointer (some ⟨p4, 1, none⟩)), (.pointer (some ⟨p4, 7, none⟩)), (.pointer (some ⟨p4, 7 + k, none⟩)), (.float .f32 y3), (.float .f32 z3), (.pointer (some ⟨p14, 1, none⟩)), (.pointer (some ⟨p14, 1, none⟩)), (.pointer (some ⟨p14, 1 + k, none⟩)), undef, (.pointer (some ⟨p14, 1, none⟩)), (.pointer (some ⟨p14, 4, none⟩)), (.pointer (some ⟨p14, 4 + k, none⟩)), undef, (.pointer (some ⟨p14, 1, none⟩)), (.pointer (some ⟨p14, 7, none⟩)), (.pointer (some ⟨p14, 7 + k, none⟩)), undef].getD qz undef) (fun d vs w' => OG W1 (mixG a b t) p14 (S3 (SK k) (d 42) (d 46) (d 50) (1 + k) (4 + k) (7 + k)) w') (by kernel_rfl) (by kernel_rfl) ?_ ?_ ?_
                        · intro vs
                          exact OG.keep (OG.s0 HOK.out) ((Below.refl _ _).drew)
                        · intro iq oq hi ho
                          rcases (by omega : iq = 0 ∨ iq = 1 ∨ iq = 2 ∨ iq = 3 ∨ iq = 4 ∨ iq = 5 ∨ iq = 6 ∨ iq = 7 ∨ iq = 8 ∨ iq = 9 ∨ iq = 10 ∨ iq = 11 ∨ iq = 12 ∨ iq = 13 ∨ iq = 14 ∨ iq = 15 ∨ iq = 16 ∨ iq = 17 ∨ iq = 18 ∨ iq = 19 ∨ iq = 20 ∨ iq = 21 ∨ iq = 22 ∨ iq = 23 ∨ iq = 24 ∨ iq = 25 ∨ iq = 26 ∨ iq = 27 ∨ iq = 28 ∨ iq = 29 ∨ iq = 30 ∨ iq = 31 ∨ iq = 32 ∨ iq = 33 ∨ iq = 34 ∨ iq = 35 ∨ iq = 36 ∨ iq = 37 ∨ iq = 38 ∨ iq = 39 ∨ iq = 40 ∨ iq = 41 ∨ iq = 42 ∨ iq = 43 ∨ iq = 44 ∨ iq = 45 ∨ iq = 46 ∨ iq = 47 ∨ iq = 48 ∨ iq = 49 ∨ iq = 50) with rfl | rfl | rfl | rfl | rfl | rfl | rfl | rfl | rfl | rfl | rfl | rfl | rfl | rfl | rfl | rfl | rfl | rfl | rfl | rfl | rfl | rfl | rfl | rfl | rfl | rfl | rfl | rfl | rfl | rfl | rfl | rfl | rfl | rfl | rfl | rfl | rfl | rfl | rfl | rfl | rfl | rfl | rfl | rfl | rfl | rfl | rfl | rfl | rfl | rfl | rfl
                          all_goals simp only [List.getElem?_cons_zero, List.getElem?_cons_succ, Option.some.injEq] at ho
                          all_goals subst ho
                          all_goals intro d a0 wx hI hag hdep hun
                          · have e0 := slot_eq (hag 15 rfl)
                            exact inv_val (v := (.int .i64 (k : Int))) (by simp [go_sem, e0]) (fun h => (by cases h)) rfl hI
                          · have e0 := slot_eq (hag 15 rfl)
                            exact inv_val (v := (.int .i64 (k : Int))) (by simp [go_sem, e0]) (fun h => (by cases h)) rfl hI
                          · have e0 := slot_eq (hag 15 rfl)
                            exact inv_val (v := (.int .i64 (k : Int))) (by simp [go_sem, e0]) (fun h => (by cases h)) rfl hI
                          · have e0 := slot_eq (hag 13 rfl)
                            exact inv_val (v := (.func (.func 18) #[] #[.pointer (some ⟨p5, 0, none⟩)])) (by simp [go_sem, e0]) (fun h => (by cases h)) rfl hI
                          · have e0 := slot_eq (hag 15 rfl)
                            exact inv_val (v := (.int .i64 (k : Int))) (by simp [go_sem, e0]) (fun h => (by cases h)) rfl hI
                          · have e0 := slot_eq (hag 3 rfl)
                            exact inv_val (v := (.pointer (some ⟨p3, 1, none⟩))) (by simp [go_sem, e0]) (fun h => (by cases h)) rfl hI
                          · have e0 := slot_eq (hdep ⟨5, .data⟩ (by simp) rfl).1
                            exact inv_val (v := (.pointer (some ⟨p3, 1, none⟩))) (by simp [go_sem, e0]) (fun h => (by cases h)) rfl hI
                          · have z1 : (k : Int) < 3 := by omega
                            have e0 := slot_eq (hdep ⟨6, .data⟩ (by simp) rfl).1
                            have e1 := slot_eq (hdep ⟨4, .data⟩ (by simp) rfl).1
                            exact inv_val (v := (.pointer (some ⟨p3, 1 + k, none⟩))) (by simp [go_sem, e0, e1, z1, hlk]) (fun h => (by cases h)) rfl hI
                          · have r0 := (R22.out wx hI.bel).1.1
                            have e0 := slot_eq (hdep ⟨7, .data⟩ (by simp) rfl).1
                            exact inv_val (v := (.float .f32 x1)) (by simp [go_sem, e0, r0]) (fun h => (by cases h)) rfl hI
                          · have e0 := slot_eq (hag 15 rfl)
                            exact inv_val (v := (.int .i64 (k : Int))) (by simp [go_sem, e0]) (fun h => (by cases h)) rfl hI
                          · have e0 := slot_eq (hag 4 rfl)
                            exact inv_val (v := (.pointer (some ⟨p4, 1, none⟩))) (by simp [go_sem, e0]) (fun h => (by cases h)) rfl hI
                          · have e0 := slot_eq (hdep ⟨10, .data⟩ (by simp) rfl).1
                            exact inv_val (v := (.pointer (some ⟨p4, 1, none⟩))) (by simp [go_sem, e0]) (fun h => (by cases h)) rfl hI
                          · have z1 : (k : Int) < 3 := by omega
                            have e0 := slot_eq (hdep ⟨11, .data⟩ (by simp) rfl).1
                            have e1 := slot_eq (hdep ⟨9, .data⟩ (by simp) rfl).1
                            exact inv_val (v := (.pointer (some ⟨p4, 1 + k, none⟩))) (by simp [go_sem, e0, e1, z1, hlk]) (fun h => (by cases h)) rfl hI
                          · have r0 := (R22.out wx hI.bel).2.1
                            have e0 := slot_eq (hdep ⟨12, .data⟩ (by simp) rfl).1
                            exact inv_val (v := (.float .f32 y1)) (by simp [go_sem, e0, r0]) (fun h => (by cases h)) rfl hI
                          · have e0 := slot_eq (hdep ⟨3, .data⟩ (by simp) rfl).1
                            have e1 := slot_eq (hdep ⟨8, .data⟩ (by simp) rfl).1
                            have e2 := slot_eq (hdep ⟨13, .data⟩ (by simp) rfl).1
                            refine inv_call (f := 18) (args := #[.float .f32 x1, .float .f32 y1, .pointer (some ⟨p5, 0, none⟩)]) (run_go_callv (args := #[.float .f32 x1, .float .f32 y1, .pointer (some ⟨p5, 0, none⟩)]) Tryz.func18 (by kernel_rfl) (by kernel_rfl) _ _ _ _ _ _ _ _ _ _ _ e0 (by simp [Act.eval, e1, e2])) (fun h => (by cases h)) ?_
                            refine (ref_mixC x1 y1 t p5 wx (X5.out.keep hI.bel)).mono ?_
                            rintro e w' ⟨rfl, hb⟩
                            rw [HZ22.out.1]
                            exact ⟨_, rfl, rfl, OG.keep hI hb⟩
                          · have e0 := slot_eq (hag 13 rfl)
                            exact inv_val (v := (.func (.func 18) #[] #[.pointer (some ⟨p5, 0, none⟩)])) (by simp [go_sem, e0]) (fun h => (by cases h)) rfl hI
                          · have e0 := slot_eq (hag 15 rfl)
                            exact inv_val (v := (.int .i64 (k : Int))) (by simp [go_sem, e0]) (fun h => (by cases h)) rfl hI
                          · have e0 := slot_eq (hag 3 rfl)
                            exact inv_val (v := (.pointer (some ⟨p3, 1, none⟩))) (by simp [go_sem, e0]) (fun h => (by cases h)) rfl hI
                          · have e0 := slot_eq (hdep ⟨17, .data⟩ (by simp) rfl).1
                            exact inv_val (v := (.pointer (some ⟨p3, 4, none⟩))) (by simp [go_sem, e0]) (fun h => (by cases h)) rfl hI
                          · have z1 : (k : Int) < 3 := by omega
                            have e0 := slot_eq (hdep ⟨18, .data⟩ (by simp) rfl).1
                            have e1 := slot_eq (hdep ⟨16, .data⟩ (by simp) rfl).1
                            exact inv_val (v := (.pointer (some ⟨p3, 4 + k, none⟩))) (by simp [go_sem, e0, e1, z1, hlk]) (fun h => (by cases h)) rfl hI
                          · have r0 := (R22.out wx hI.bel).1.2.1
                            have e0 := slot_eq (hdep ⟨19, .data⟩ (by simp) rfl).1
                            exact inv_val (v := (.float .f32 x2)) (by simp [go_sem, e0, r0]) (fun h => (by cases h)) rfl hI
                          · have e0 := slot_eq (hag 15 rfl)
                            exact inv_val (v := (.int .i64 (k : Int))) (by simp [go_sem, e0]) (fun h => (by cases h)) rfl hI
                          · have e0 := slot_eq (hag 4 rfl)
                            exact inv_val (v := (.pointer (some ⟨p4, 1, none⟩))) (by simp [go_sem, e0]) (fun h => (by cases h)) rfl hI
                          · have e0 := slot_eq (hdep ⟨22, .data⟩ (by simp) rfl).1
                            exact inv_val (v := (.pointer (some ⟨p4, 4, none⟩))) (by simp [go_sem, e0]) (fun h => (by cases h)) rfl hI
                          · have z1 : (k : Int) < 3 := by omega
                            have e0 := slot_eq (hdep ⟨23, .data⟩ (by simp) rfl).1
                            have e1 := slot_eq (hdep ⟨21, .data⟩ (by simp) rfl).1
                            exact inv_val (v := (.pointer (some ⟨p4, 4 + k, none⟩))) (by simp [go_sem, e0, e1, z1, hlk]) (fun h => (by cases h)) rfl hI
                          · have r0 := (R22.out wx hI.bel).2.2.1
                            have e0 := slot_eq (hdep ⟨24, .data⟩ (by simp) rfl).1
                            exact inv_val (v := (.float .f32 y2)) (by simp [go_sem, e0, r0]) (fun h => (by cases h)) rfl hI
                          · have e0 := slot_eq (hdep ⟨15, .data⟩ (by simp) rfl).1
                            have e1 := slot_eq (hdep ⟨20, .data⟩ (by simp) rfl).1
                            have e2 := slot_eq (hdep ⟨25, .data⟩ (by simp) rfl).1
                            refine inv_call (f := 18) (args := #[.float .f32 x2, .float .f32 y2, .pointer (some ⟨p5, 0, none⟩)]) (run_go_callv (args := #[.float .f32 x2, .float .f32 y2, .pointer (some ⟨p5, 0, none⟩)]) Tryz.func18 (by kernel_rfl) (by kernel_rfl) _ _ _ _ _ _ _ _ _ _ _ e0 (by simp [Act.eval, e1, e2])) (fun h => (by cases h)) ?_
                            refine (ref_mixC x2 y2 t p5 wx (X5.out.keep hI.bel)).mono ?_
                            rintro e w' ⟨rfl, hb⟩
                            rw [HZ22.out.2.1]
                            exact ⟨_, rfl, rfl, OG.keep hI hb⟩
                          · have e0 := slot_eq (hag 13 rfl)
                            exact inv_val (v := (.func (.func 18) #[] #[.pointer (some ⟨p5, 0, none⟩)])) (by simp [go_sem, e0]) (fun h => (by cases h)) rfl hI
                          · have e0 := slot_eq (hag 15 rfl)
                            exact inv_val (v := (.int .i64 (k : Int))) (by simp [go_sem, e0]) (fun h => (by cases h)) rfl hI
                          · have e0 := slot_eq (hag 3 rfl)
                            exact inv_val (v := (.pointer (some ⟨p3, 1, none⟩))) (by simp [go_sem, e0]) (fun h => (by cases h)) rfl hI
                          · have e0 := slot_eq (hdep ⟨29, .data⟩ (by simp) rfl).1
                            exact inv_val (v := (.pointer (some ⟨p3, 7, none⟩))) (by simp [go_sem, e0]) (fun h => (by cases h)) rfl hI
                          · have z1 : (k : Int) < 3 := by omega
                            have e0 := slot_eq (hdep ⟨30, .data⟩ (by simp) rfl).1
                            have e1 := slot_eq (hdep ⟨28, .data⟩ (by simp) rfl).1
                            exact inv_val (v := (.pointer (some ⟨p3, 7 + k, none⟩))) (by simp [go_sem, e0, e1, z1, hlk]) (fun h => (by cases h)) rfl hI
                          · have r0 := (R22.out wx hI.bel).1.2.2
                            have e0 := slot_eq (hdep ⟨31, .data⟩ (by simp) rfl).1
                            exact inv_val (v := (.float .f32 x3)) (by simp [go_sem, e0, r0]) (fun h => (by cases h)) rfl hI
                          · have e0 := slot_eq (hag 15 rfl)
                            exact inv_val (v := (.int .i64 (k : Int))) (by simp [go_sem, e0]) (fun h => (by cases h)) rfl hI
                          · have e0 := slot_eq (hag 4 rfl)
                            exact inv_val (v := (.pointer (some ⟨p4, 1, none⟩))) (by simp [go_sem, e0]) (fun h => (by cases h)) rfl hI
                          · have e0 := slot_eq (hdep ⟨34, .data⟩ (by simp) rfl).1
                            exact inv_val (v := (.pointer (some ⟨p4, 7, none⟩))) (by simp [go_sem, e0]) (fun h => (by cases h)) rfl hI
                          · have z1 : (k : Int) < 3 := by omega
                            have e0 := slot_eq (hdep ⟨35, .data⟩ (by simp) rfl).1
                            have e1 := slot_eq (hdep ⟨33, .data⟩ (by simp) rfl).1
                            exact inv_val (v := (.pointer (some ⟨p4, 7 + k, none⟩))) (by simp [go_sem, e0, e1, z1, hlk]) (fun h => (by cases h)) rfl hI
                          · have r0 := (R22.out wx hI.bel).2.2.2
                            have e0 := slot_eq (hdep ⟨36, .data⟩ (by simp) rfl).1
                            exact inv_val (v := (.float .f32 y3)) (by simp [go_sem, e0, r0]) (fun h => (by cases h)) rfl hI
                          · have e0 := slot_eq (hdep ⟨27, .data⟩ (by simp) rfl).1
                            have e1 := slot_eq (hdep ⟨32, .data⟩ (by simp) rfl).1
                            have e2 := slot_eq (hdep ⟨37, .data⟩ (by simp) rfl).1
                            refine inv_call (f := 18) (args := #[.float .f32 x3, .float .f32 y3, .pointer (some ⟨p5, 0, none⟩)]) (run_go_callv (args := #[.float .f32 x3, .float .f32 y3, .pointer (some ⟨p5, 0, none⟩)]) Tryz.func18 (by kernel_rfl) (by kernel_rfl) _ _ _ _ _ _ _ _ _ _ _ e0 (by simp [Act.eval, e1, e2])) (fun h => (by cases h)) ?_
                            refine (ref_mixC x3 y3 t p5 wx (X5.out.keep hI.bel)).mono ?_
                            rintro e w' ⟨rfl, hb⟩
                            rw [HZ22.out.2.2]
                            exact ⟨_, rfl, rfl, OG.keep hI hb⟩
                          · have e0 := slot_eq (hag 14 rfl)
                            exact inv_val (v := (.pointer (some ⟨p14, 1, none⟩))) (by simp [go_sem, e0]) (fun h => (by cases h)) rfl hI
                          · have e0 := slot_eq (hdep ⟨39, .data⟩ (by simp) rfl).1
                            exact inv_val (v := (.pointer (some ⟨p14, 1, none⟩))) (by simp [go_sem, e0]) (fun h => (by cases h)) rfl hI
                          · have z1 : (k : Int) < 3 := by omega
                            have e0 := slot_eq (hdep ⟨40, .data⟩ (by simp) rfl).1
                            have e1 := slot_eq (hdep ⟨0, .data⟩ (by simp) rfl).1
                            exact inv_val (v := (.pointer (some ⟨p14, 1 + k, none⟩))) (by simp [go_sem, e0, e1, z1, hlk]) (fun h => (by cases h)) rfl hI
                          · obtain ⟨v0, hc0, hf0⟩ := OG.cell hI (show 1 + k < 49 by omega)
                            have e0 := slot_eq (hdep ⟨41, .data⟩ (by simp) rfl).1
                            have e1 := slot_eq (hdep ⟨14, .data⟩ (by simp) rfl).1
                            refine inv_skip (w' := wx.setCell ⟨p14, 1 + k, none⟩ (.float .f32 z1)) ?_ rfl (OG.s1 hI (by omega) HT22.out.1)
                            simp [go_sem, e0, e1, hc0, hf0]
                          · have e0 := slot_eq (hag 14 rfl)
                            exact inv_val (v := (.pointer (some ⟨p14, 1, none⟩))) (by simp [go_sem, e0]) (fun h => (by cases h)) rfl hI
                          · have e0 := slot_eq (hdep ⟨43, .data⟩ (by simp) rfl).1
                            exact inv_val (v := (.pointer (some ⟨p14, 4, none⟩))) (by simp [go_sem, e0]) (fun h => (by cases h)) rfl hI
                          · have z1 : (k : Int) < 3 := by omega
                            have e0 := slot_eq (hdep ⟨44, .data⟩ (by simp) rfl).1
                            have e1 := slot_eq (hdep ⟨1, .data⟩ (by simp) rfl).1
                            exact inv_val (v := (.pointer (some ⟨p14, 4 + k, none⟩))) (by simp [go_sem, e0, e1, z1, hlk]) (fun h => (by cases h)) rfl hI
                          · obtain ⟨v0, hc0, hf0⟩ := OG.cell hI (show 4 + k < 49 by omega)
                            have e0 := slot_eq (hdep ⟨45, .data⟩ (by simp) rfl).1
                            have e1 := slot_eq (hdep ⟨26, .data⟩ (by simp) rfl).1
                            refine inv_skip (w' := wx.setCell ⟨p14, 4 + k, none⟩ (.float .f32 z2)) ?_ rfl (OG.s2 hI (by omega) HT22.out.2.1)
                            simp [go_sem, e0, e1, hc0, hf0]
                          · have e0 := slot_eq (hag 14 rfl)
                            exact inv_val (v := (.pointer (some ⟨p14, 1, none⟩))) (by simp [go_sem, e0]) (fun h => (by cases h)) rfl hI
                          · have e0 := slot_eq (hdep ⟨47, .data⟩ (by simp) rfl).1
                            exact inv_val (v := (.pointer (some ⟨p14, 7, none⟩))) (by simp [go_sem, e0]) (fun h => (by cases h)) rfl hI
                          · have z1 : (k : Int) < 3 := by omega
                            have e0 := slot_eq (hdep ⟨48, .data⟩ (by simp) rfl).1
                            have e1 := slot_eq (hdep ⟨2, .data⟩ (by simp) rfl).1
                            exact inv_val (v := (.pointer (some ⟨p14, 7 + k, none⟩))) (by simp [go_sem, e0, e1, z1, hlk]) (fun h => (by cases h)) rfl hI
                          · obtain ⟨v0, hc0, hf0⟩ := OG.cell hI (show 7 + k < 49 by omega)
                            have e0 := slot_eq (hdep ⟨49, .data⟩ (by simp) rfl).1
                            have e1 := slot_eq (hdep ⟨38, .data⟩ (by simp) rfl).1
                            refine inv_skip (w' := wx.setCell ⟨p14, 7 + k, none⟩ (.float .f32 z3)) ?_ rfl (OG.s3 hI (by omega) HT22.out.2.2)
                            simp [go_sem, e0, e1, hc0, hf0]
                        · intro d vs wa hd hI hA
                          have k0 : vs 0 = (.int .i64 (k : Int)) := hA 0 (by omega)
                          have k1 : vs 1 = (.int .i64 (k : Int)) := hA 1 (by omega)
                          have k2 : vs 2 = (.int .i64 (k : Int)) := hA 2 (by omega)
                          have k3 : vs 3 = (.func (.func 18) #[] #[.pointer (some ⟨p5, 0, none⟩)]) := hA 3 (by omega)
                          have k4 : vs 4 = (.int .i64 (k : Int)) := hA 4 (by omega)
                          have k5 : vs 5 = (.pointer (some ⟨p3, 1, none⟩)) := hA 5 (by omega)
                          have k6 : vs 6 = (.pointer (some ⟨p3, 1, none⟩)) := hA 6 (by omega)
                          have k7 : vs 7 = (.pointer (some ⟨p3, 1 + k, none⟩)) := hA 7 (by omega)
                          have k8 : vs 8 = (.float .f32 x1) := hA 8 (by omega)
                          have k9 : vs 9 = (.int .i64 (k : Int)) := hA 9 (by omega)
                          have k10 : vs 10 = (.pointer (some ⟨p4, 1, none⟩)) := hA 10 (by omega)
                          have k11 : vs 11 = (.pointer (some ⟨p4, 1, none⟩)) := hA 11 (by omega)
                          have k12 : vs 12 = (.pointer (some ⟨p4, 1 + k, none⟩)) := hA 12 (by omega)
                          have k13 : vs 13 = (.float .f32 y1) := hA 13 (by omega)
                          have k14 : vs 14 = (.float .f32 z1) := hA 14 (by omega)
                          have k15 : vs 15 = (.func (.func 18) #[] #[.pointer (some ⟨p5, 0, none⟩)]) := hA 15 (by omega)
                          have k16 : vs 16 = (.int .i64 (k : Int)) := hA 16 (by omega)
                          have k17 : vs 17 = (.pointer (some ⟨p3, 1, none⟩)) := hA 17 (by omega)
                          have k18 : vs 18 = (.pointer (some ⟨p3, 4, none⟩)) := hA 18 (by omega)
                          have k19 : vs 19 = (.pointer (some ⟨p3, 4 + k, none⟩)) := hA 19 (by omega)
                          have k20 : vs 20 = (.float .f32 x2) := hA 20 (by omega)
                          have k21 : vs 21 = (.int .i64 (k : Int)) := hA 21 (by omega)
                          have k22 : vs 22 = (.pointer (some ⟨p4, 1, none⟩)) := hA 22 (by omega)
                          have k23 : vs 23 = (.pointer (some ⟨p4, 4, none⟩)) := hA 23 (by omega)
                          have k24 : vs 24 = (.pointer (some ⟨p4, 4 + k, none⟩)) := hA 24 (by omega)
                          have k25 : vs 25 = (.float .f32 y2) := hA 25 (by omega)
                          have k26 : vs 26 = (.float .f32 z2) := hA 26 (by omega)
                          have k27 : vs 27 = (.func (.func 18) #[] #[.pointer (some ⟨p5, 0, none⟩)]) := hA 27 (by omega)
                          have k28 : vs 28 = (.int .i64 (k : Int)) := hA 28 (by omega)
                          have k29 : vs 29 = (.pointer (some ⟨p3, 1, none⟩)) := hA 29 (by omega)
                          have k30 : vs 30 = (.pointer (some ⟨p3, 7, none⟩)) := hA 30 (by omega)
                          have k31 : vs 31 = (.pointer (some ⟨p3, 7 + k, none⟩)) := hA 31 (by omega)
                          have k32 : vs 32 = (.float .f32 x3) := hA 32 (by omega)
                          have k33 : vs 33 = (.int .i64 (k : Int)) := hA 33 (by omega)
                          have k34 : vs 34 = (.pointer (some ⟨p4, 1, none⟩)) := hA 34 (by omega)
                          have k35 : vs 35 = (.pointer (some ⟨p4, 7, none⟩)) := hA 35 (by omega)
                          have k36 : vs 36 = (.pointer (some ⟨p4, 7 + k, none⟩)) := hA 36 (by omega)
                          have k37 : vs 37 = (.float .f32 y3) := hA 37 (by omega)
                          have k38 : vs 38 = (.float .f32 z3) := hA 38 (by omega)
                          have k39 : vs 39 = (.pointer (some ⟨p14, 1, none⟩)) := hA 39 (by omega)
                          have k40 : vs 40 = (.pointer (some ⟨p14, 1, none⟩)) := hA 40 (by omega)
                          have k41 : vs 41 = (.pointer (some ⟨p14, 1 + k, none⟩)) := hA 41 (by omega)
                          have k43 : vs 43 = (.pointer (some ⟨p14, 1, none⟩)) := hA 43 (by omega)
                          have k44 : vs 44 = (.pointer (some ⟨p14, 4, none⟩)) := hA 44 (by omega)
                          have k45 : vs 45 = (.pointer (some ⟨p14, 4 + k, none⟩)) := hA 45 (by omega)
                          have k47 : vs 47 = (.pointer (some ⟨p14, 1, none⟩)) := hA 47 (by omega)
                          have k48 : vs 48 = (.pointer (some ⟨p14, 7, none⟩)) := hA 48 (by omega)
                          have k49 : vs 49 = (.pointer (some ⟨p14, 7 + k, none⟩)) := hA 49 (by omega)
                          simp only [putAll, dstAt, List.getElem?_toArray, List.getElem?_cons_zero, List.getElem?_cons_succ, Option.bind_some, Option.bind_none, Act.put, List.setIfInBounds_toArray, List.set_cons_zero, List.set_cons_succ, k0, k1, k2, k3, k4, k5, k6, k7, k8, k9, k10, k11, k12, k13, k14, k15, k16, k17, k18, k19, k20, k21, k22, k23, k24, k25, k26, k27, k28, k29, k30, k31, k32, k33, k34, k35, k36, k37, k38, k39, k40, k41, k43, k44, k45, k47, k48, k49]
                          have hO := hI
                          simp only [hd 42 (by omega), hd 46 (by omega), hd 50 (by omega)] at hO
                          have HO22 := Lib.hid (OG.sF hO)
                          clear hI hA hd k0 k1 k2 k3 k4 k5 k6 k7 k8 k9 k10 k11 k12 k13 k14 k15 k16 k17 k18 k19 k20 k21 k22 k23 k24 k25 k26 k27 k28 k29 k30 k31 k32 k33 k34 k35 k36 k37 k38 k39 k40 k41 k43 k44 k45 k47 k48 k49 hO vs d
                          go_upto_region 23 with fail
                          refine wp_region_inv 51 (fun qz u' => u' = [(.int .i64 (k : Int)), (.int .i64 (k : Int)), (.int .i64 (k : Int)), (.func (.func 18) #[] #[.pointer (some ⟨p5, 0, none⟩)]), (.int .i64 (k : Int)), (.pointer (some ⟨p3, 10, none⟩)), (.pointer (some ⟨p3, 10, none⟩)), (.pointer (some ⟨p3, 10 + k, none⟩)), (.float .f32 l1), (.int .i64 (k : Int)), (.pointer (some ⟨p4, 10, none⟩)), (.pointer (some ⟨p4, 10, none⟩)), (.pointer (some ⟨p4, 10 + k, none⟩)), (.float .f32 m1), (.float .f32 o1), (.func (.func 18) #[] #[.pointer (some ⟨p5, 0, none⟩)]), (.int .i64 (k : Int)), (.pointer (some ⟨p3, 10, none⟩)), (.pointer (some ⟨p3, 13, none⟩)), (.pointer (some ⟨p3, 13 + k, none⟩)), (.float .f32 l2), (.int .i64 (k : Int)), (.pointer (some ⟨p4, 10, none⟩)), (.pointer (some ⟨p4, 13, none⟩)), (.pointer (some ⟨p4, 13 + k, none⟩)), (.float .f32 m2), (.float .f32 o2), (.func (.func 18) #[] #[.pointer (some ⟨p5, 0, none⟩)]), (.int .i64 (k : Int)), (.pointer (some ⟨p3, 10, none⟩)), (.pointer (some ⟨p3, 16, none⟩)), (.pointer (some ⟨p3, 16 + k, none⟩)), (.float .f32 l3), (.int .i64 (k : Int)), (.pointer (some ⟨p4, 10, none⟩)), (.pointer (some ⟨p4, 16, none⟩)), (.pointer (some ⟨p4, 16 + k, none⟩)), (.float .f32 m3), (.float .f32 o3), (.pointer (some ⟨p14, 10, none⟩)), (.pointer (some ⟨p14, 10, none⟩)), (.pointer (some ⟨p14, 10 + k, none⟩)), undef, (.pointer (some ⟨p14, 10, none⟩)), (.pointer (some ⟨p14, 13, none⟩)), (.pointer (some ⟨p14, 13 + k, none⟩)), undef, (.pointer (some ⟨p14, 10, none⟩)), (.pointer (some ⟨p14, 16, none⟩)), (.pointer (some ⟨p14, 16 + k, none⟩)), undef].getD qz undef) (fun d vs w' => OG W1 (mixG a b t) p14 (S3 (fun c => SK k c ∨ c = 1 + k ∨ c = 4 + k ∨ c = 7 + k) (d 42) (d 46) (d 50) (10 + k) (13 + k) (16 + k)) w') (by kernel_rfl) (by kernel_rfl) ?_ ?_ ?_
                          · intro vs
                            exact OG.keep (OG.s0 HO22.out) ((Below.refl _ _).drew)
                          · intro iq oq hi ho
                            rcases (by omega : iq = 0 ∨ iq = 1 ∨ iq = 2 ∨ iq = 3 ∨ iq = 4 ∨ iq = 5 ∨ iq = 6 ∨ iq = 7 ∨ iq = 8 ∨ iq = 9 ∨ iq = 10 ∨ iq = 11 ∨ iq = 12 ∨ iq = 13 ∨ iq = 14 ∨ iq = 15 ∨ iq = 16 ∨ iq = 17 ∨ iq = 18 ∨ iq = 19 ∨ iq = 20 ∨ iq = 21 ∨ iq = 22 ∨ iq = 23 ∨ iq = 24 ∨ iq = 25 ∨ iq = 26 ∨ iq = 27 ∨ iq = 28 ∨ iq = 29 ∨ iq = 30 ∨ iq = 31 ∨ iq = 32 ∨ iq = 33 ∨ iq = 34 ∨ iq = 35 ∨ iq = 36 ∨ iq = 37 ∨ iq = 38 ∨ iq = 39 ∨ iq = 40 ∨ iq = 41 ∨ iq = 42 ∨ iq = 43 ∨ iq = 44 ∨ iq = 45 ∨ iq = 46 ∨ iq = 47 ∨ iq = 48 ∨ iq = 49 ∨ iq = 50) with rfl | rfl | rfl | rfl | rfl | rfl | rfl | rfl | rfl | rfl | rfl | rfl | rfl | rfl | rfl | rfl | rfl | rfl | rfl | rfl | rfl | rfl | rfl | rfl | rfl | rfl | rfl | rfl | rfl | rfl | rfl | rfl | rfl | rfl | rfl | rfl | rfl | rfl | rfl | rfl | rfl | rfl | rfl | rfl | rfl | rfl | rfl | rfl | rfl | rfl | rfl
                            all_goals simp only [List.getElem?_cons_zero, List.getElem?_cons_succ, Option.some.injEq] at ho
                            all_goals subst ho
                            all_goals intro d a0 wx hI hag hdep hun
                            · have e0 := slot_eq (hag 15 rfl)
                              exact inv_val (v := (.int .i64 (k : Int))) (by simp [go_sem, e0]) (fun h => (by cases h)) rfl hI
                            · have e0 := slot_eq (hag 15 rfl)
                              exact inv_val (v := (.int .i64 (k : Int))) (by simp [go_sem, e0]) (fun h => (by cases h)) rfl hI
                            · have e0 := slot_eq (hag 15 rfl)
                              exact inv_val (v := (.int .i64 (k : Int))) (by simp [go_sem, e0]) (fun h => (by cases h)) rfl hI
                            · have e0 := slot_eq (hag 13 rfl)
                              exact inv_val (v := (.func (.func 18) #[] #[.pointer (some ⟨p5, 0, none⟩)])) (by simp [go_sem, e0]) (fun h => (by cases h)) rfl hI
                            · have e0 := slot_eq (hag 15 rfl)
                              exact inv_val (v := (.int .i64 (k : Int))) (by simp [go_sem, e0]) (fun h => (by cases h)) rfl hI
                            · have e0 := slot_eq (hag 3 rfl)
                              exact inv_val (v := (.pointer (some ⟨p3, 10, none⟩))) (by simp [go_sem, e0]) (fun h => (by cases h)) rfl hI
                            · have e0 := slot_eq (hdep ⟨5, .data⟩ (by simp) rfl).1
                              exact inv_val (v := (.pointer (some ⟨p3, 10, none⟩))) (by simp [go_sem, e0]) (fun h => (by cases h)) rfl hI
                            · have z1 : (k : Int) < 3 := by omega
                              have e0 := slot_eq (hdep ⟨6, .data⟩ (by simp) rfl).1
                              have e1 := slot_eq (hdep ⟨4, .data⟩ (by simp) rfl).1
                              exact inv_val (v := (.pointer (some ⟨p3, 10 + k, none⟩))) (by simp [go_sem, e0, e1, z1, hlk]) (fun h => (by cases h)) rfl hI
                            · have r0 := (R23.out wx hI.bel).1.1
                              have e0 := slot_eq (hdep ⟨7, .data⟩ (by simp) rfl).1
                              exact inv_val (v := (.float .f32 l1)) (by simp [go_sem, e0, r0]) (fun h => (by cases h)) rfl hI
                            · have e0 := slot_eq (hag 15 rfl)
                              exact inv_val (v := (.int .i64 (k : Int))) (by simp [go_sem, e0]) (fun h => (by cases h)) rfl hI
                            · have e0 := slot_eq (hag 4 rfl)
                              exact inv_val (v := (.pointer (some ⟨p4, 10, none⟩))) (by simp [go_sem, e0]) (fun h => (by cases h)) rfl hI
                            · have e0 := slot_eq (hdep ⟨10, .data⟩ (by simp) rfl).1
                              exact inv_val (v := (.pointer (some ⟨p4, 10, none⟩))) (by simp [go_sem, e0]) (fun h => (by cases h)) rfl hI
                            · have z1 : (k : Int) < 3 := by omega
                              have e0 := slot_eq (hdep ⟨11, .data⟩ (by simp) rfl).1
                              have e1 := slot_eq (hdep ⟨9, .data⟩ (by simp) rfl).1
                              exact inv_val (v := (.pointer (some ⟨p4, 10 + k, none⟩))) (by simp [go_sem, e0, e1, z1, hlk]) (fun h => (by cases h)) rfl hI
                            · have r0 := (R23.out wx hI.bel).2.1
                              have e0 := slot_eq (hdep ⟨12, .data⟩ (by simp) rfl).1
                              exact inv_val (v := (.float .f32 m1)) (by simp [go_sem, e0, r0]) (fun h => (by cases h)) rfl hI
                            · have e0 := slot_eq (hdep ⟨3, .data⟩ (by simp) rfl).1
                              have e1 := slot_eq (hdep ⟨8, .data⟩ (by simp) rfl).1
                              have e2 := slot_eq (hdep ⟨13, .data⟩ (by simp) rfl).1
                              refine inv_call (f := 18) (args := #[.float .f32 l1, .float .f32 m1, .pointer (some ⟨p5, 0, none⟩)]) (run_go_callv (args := #[.float .f32 l1, .float .f32 m1, .pointer (some ⟨p5, 0, none⟩)]) Tryz.func18 (by kernel_rfl) (by kernel_rfl) _ _ _ _ _ _ _ _ _ _ _ e0 (by simp [Act.eval, e1, e2])) (fun h => (by cases h)) ?_
                              refine (ref_mixC l1 m1 t p5 wx (X5.out.keep hI.bel)).mono ?_
                              rintro e w' ⟨rfl, hb⟩
                              rw [HZ23.out.1]
                              exact ⟨_, rfl, rfl, OG.keep hI hb⟩
                            · have e0 := slot_eq (hag 13 rfl)
                              exact inv_val (v := (.func (.func 18) #[] #[.pointer (some ⟨p5, 0, none⟩)])) (by simp [go_sem, e0]) (fun h => (by cases h)) rfl hI
                            · have e0 := slot_eq (hag 15 rfl)
                              exact inv_val (v := (.int .i64 (k : Int))) (by simp [go_sem, e0]) (fun h => (by cases h)) rfl hI
                            · have e0 := slot_eq (hag 3 rfl)
                              exact inv_val (v := (.pointer (some ⟨p3, 10, none⟩))) (by simp [go_sem, e0]) (fun h => (by cases h)) rfl hI
                            · have e0 := slot_eq (hdep ⟨17, .data⟩ (by simp) rfl).1
                              exact inv_val (v := (.pointer (some ⟨p3, 13, none⟩))) (by simp [go_sem, e0]) (fun h => (by cases h)) rfl hI
                            · have z1 : (k : Int) < 3 := by omega
                              have e0 := slot_eq (hdep ⟨18, .data⟩ (by simp) rfl).1
                              have e1 := slot_eq (hdep ⟨16, .data⟩ (by simp) rfl).1
                              exact inv_val (v := (.pointer (some ⟨p3, 13 + k, none⟩))) (by simp [go_sem, e0, e1, z1, hlk]) (fun h => (by cases h)) rfl hI
                            · have r0 := (R23.out wx hI.bel).1.2.1
                              have e0 := slot_eq (hdep ⟨19, .data⟩ (by simp) rfl).1
                              exact inv_val (v := (.float .f32 l2)) (by simp [go_sem, e0, r0]) (fun h => (by cases h)) rfl hI
                            · have e0 := slot_eq (hag 15 rfl)
                              exact inv_val (v := (.int .i64 (k : Int))) (by simp [go_sem, e0]) (fun h => (by cases h)) rfl hI
                            · have e0 := slot_eq (hag 4 rfl)
                              exact inv_val (v := (.pointer (some ⟨p4, 10, none⟩))) (by simp [go_sem, e0]) (fun h => (by cases h)) rfl hI
                            · have e0 := slot_eq (hdep ⟨22, .data⟩ (by simp) rfl).1
                              exact inv_val (v := (.pointer (some ⟨p4, 13, none⟩))) (by simp [go_sem, e0]) (fun h => (by cases h)) rfl hI
                            · have z1 : (k : Int) < 3 := by omega
                              have e0 := slot_eq (hdep ⟨23, .data⟩ (by simp) rfl).1
                              have e1 := slot_eq (hdep ⟨21, .data⟩ (by simp) rfl).1
                              exact inv_val (v := (.pointer (some ⟨p4, 13 + k, none⟩))) (by simp [go_sem, e0, e1, z1, hlk]) (fun h => (by cases h)) rfl hI
                            · have r0 := (R23.out wx hI.bel).2.2.1
                              have e0 := slot_eq (hdep ⟨24, .data⟩ (by simp) rfl).1
                              exact inv_val (v := (.float .f32 m2)) (by simp [go_sem, e0, r0]) (fun h => (by cases h)) rfl hI
                            · have e0 := slot_eq (hdep ⟨15, .data⟩ (by simp) rfl).1
                              have e1 := slot_eq (hdep ⟨20, .data⟩ (by simp) rfl).1
                              have e2 := slot_eq (hdep ⟨25, .data⟩ (by simp) rfl).1
                              refine inv_call (f := 18) (args := #[.float .f32 l2, .float .f32 m2, .pointer (some ⟨p5, 0, none⟩)]) (run_go_callv (args := #[.float .f32 l2, .float .f32 m2, .pointer (some ⟨p5, 0, none⟩)]) Tryz.func18 (by kernel_rfl) (by kernel_rfl) _ _ _ _ _ _ _ _ _ _ _ e0 (by simp [Act.eval, e1, e2])) (fun h => (by cases h)) ?_
                              refine (ref_mixC l2 m2 t p5 wx (X5.out.keep hI.bel)).mono ?_
                              rintro e w' ⟨rfl, hb⟩
                              rw [HZ23.out.2.1]
                              exact ⟨_, rfl, rfl, OG.keep hI hb⟩
                            · have e0 := slot_eq (hag 13 rfl)
                              exact inv_val (v := (.func (.func 18) #[] #[.pointer (some ⟨p5, 0, none⟩)])) (by simp [go_sem, e0]) (fun h => (by cases h)) rfl hI
                            · have e0 := slot_eq (hag 15 rfl)
                              exact inv_val (v := (.int .i64 (k : Int))) (by simp [go_sem, e0]) (fun h => (by cases h)) rfl hI
                            · have e0 := slot_eq (hag 3 rfl)
                              exact inv_val (v := (.pointer (some ⟨p3, 10, none⟩))) (by simp [go_sem, e0]) (fun h => (by cases h)) rfl hI
                            · have e0 := slot_eq (hdep ⟨29, .data⟩ (by simp) rfl).1
                              exact inv_val (v := (.pointer (some ⟨p3, 16, none⟩))) (by simp [go_sem, e0]) (fun h => (by cases h)) rfl hI
                            · have z1 : (k : Int) < 3 := by omega
                              have e0 := slot_eq (hdep ⟨30, .data⟩ (by simp) rfl).1
                              have e1 := slot_eq (hdep ⟨28, .data⟩ (by simp) rfl).1
                              exact inv_val (v := (.pointer (some ⟨p3, 16 + k, none⟩))) (by simp [go_sem, e0, e1, z1, hlk]) (fun h => (by cases h)) rfl hI
                            · have r0 := (R23.out wx hI.bel).1.2.2
                              have e0 := slot_eq (hdep ⟨31, .data⟩ (by simp) rfl).1
                              exact inv_val (v := (.float .f32 l3)) (by simp [go_sem, e0, r0]) (fun h => (by cases h)) rfl hI
                            · have e0 := slot_eq (hag 15 rfl)
                              exact inv_val (v := (.int .i64 (k : Int))) (by simp [go_sem, e0]) (fun h => (by cases h)) rfl hI
                            · have e0 := slot_eq (hag 4 rfl)
                              exact inv_val (v := (.pointer (some ⟨p4, 10, none⟩))) (by simp [go_sem, e0]) (fun h => (by cases h)) rfl hI
                            · have e0 := slot_eq (hdep ⟨34, .data⟩ (by simp) rfl).1
                              exact inv_val (v := (.pointer (some ⟨p4, 16, none⟩))) (by simp [go_sem, e0]) (fun h => (by cases h)) rfl hI
                            · have z1 : (k : Int) < 3 := by omega
                              have e0 := slot_eq (hdep ⟨35, .data⟩ (by simp) rfl).1
                              have e1 := slot_eq (hdep ⟨33, .data⟩ (by simp) rfl).1
                              exact inv_val (v := (.pointer (some ⟨p4, 16 + k, none⟩))) (by simp [go_sem, e0, e1, z1, hlk]) (fun h => (by cases h)) rfl hI
                            · have r0 := (R23.out wx hI.bel).2.2.2
                              have e0 := slot_eq (hdep ⟨36, .data⟩ (by simp) rfl).1
                              exact inv_val (v := (.float .f32 m3)) (by simp [go_sem, e0, r0]) (fun h => (by cases h)) rfl hI
                            · have e0 := slot_eq (hdep ⟨27, .data⟩ (by simp) rfl).1
                              have e1 := slot_eq (hdep ⟨32, .data⟩ (by simp) rfl).1
                              have e2 := slot_eq (hdep ⟨37, .data⟩ (by simp) rfl).1
                              refine inv_call (f := 18) (args := #[.float .f32 l3, .float .f32 m3, .pointer (some ⟨p5, 0, none⟩)]) (run_go_callv (args := #[.float .f32 l3, .float .f32 m3, .pointer (some ⟨p5, 0, none⟩)]) Tryz.func18 (by kernel_rfl) (by kernel_rfl) _ _ _ _ _ _ _ _ _ _ _ e0 (by simp [Act.eval, e1, e2])) (fun h => (by cases h)) ?_
                              refine (ref_mixC l3 m3 t p5 wx (X5.out.keep hI.bel)).mono ?_
                              rintro e w' ⟨rfl, hb⟩
                              rw [HZ23.out.2.2]
                              exact ⟨_, rfl, rfl, OG.keep hI hb⟩
                            · have e0 := slot_eq (hag 14 rfl)
                              exact inv_val (v := (.pointer (some ⟨p14, 10, none⟩))) (by simp [go_sem, e0]) (fun h => (by cases h)) rfl hI
                            · have e0 := slot_eq (hdep ⟨39, .data⟩ (by simp) rfl).1
                              exact inv_val (v := (.pointer (some ⟨p14, 10, none⟩))) (by simp [go_sem, e0]) (fun h => (by cases h)) rfl hI
                            · have z1 : (k : Int) < 3 := by omega
                              have e0 := slot_eq (hdep ⟨40, .data⟩ (by simp) rfl).1
                              have e1 := slot_eq (hdep ⟨0, .data⟩ (by simp) rfl).1
                              exact inv_val (v := (.pointer (some ⟨p14, 10 + k, none⟩))) (by simp [go_sem, e0, e1, z1, hlk]) (fun h => (by cases h)) rfl hI
                            · obtain ⟨v0, hc0, hf0⟩ := OG.cell hI (show 10 + k < 49 by omega)
                              have e0 := slot_eq (hdep ⟨41, .data⟩ (by simp) rfl).1
                              have e1 := slot_eq (hdep ⟨14, .data⟩ (by simp) rfl).1
                              refine inv_skip (w' := wx.setCell ⟨p14, 10 + k, none⟩ (.float .f32 o1)) ?_ rfl (OG.s1 hI (by omega) HT23.out.1)
                              simp [go_sem, e0, e1, hc0, hf0]
                            · have e0 := slot_eq (hag 14 rfl)
                              exact inv_val (v := (.pointer (some ⟨p14, 10, none⟩))) (by simp [go_sem, e0]) (fun h => (by cases h)) rfl hI
                            · have e0 := slot_eq (hdep ⟨43, .data⟩ (by simp) rfl).1
                              exact inv_val (v := (.pointer (some ⟨p14, 13, none⟩))) (by simp [go_sem, e0]) (fun h => (by cases h)) rfl hI
                            · have z1 : (k : Int) < 3 := by omega
                              have e0 := slot_eq (hdep ⟨44, .data⟩ (by simp) rfl).1
                              have e1 := slot_eq (hdep ⟨1, .data⟩ (by simp) rfl).1
                              exact inv_val (v := (.pointer (some ⟨p14, 13 + k, none⟩))) (by simp [go_sem, e0, e1, z1, hlk]) (fun h => (by cases h)) rfl hI
                            · obtain ⟨v0, hc0, hf0⟩ := OG.cell hI (show 13 + k < 49 by omega)
                              have e0 := slot_eq (hdep ⟨45, .data⟩ (by simp) rfl).1
                              have e1 := slot_eq (hdep ⟨26, .data⟩ (by simp) rfl).1
                              refine inv_skip (w' := wx.setCell ⟨p14, 13 + k, none⟩ (.float .f32 o2)) ?_ rfl (OG.s2 hI (by omega) HT23.out.2.1)
                              simp [go_sem, e0, e1, hc0, hf0]
                            · have e0 := slot_eq (hag 14 rfl)
                              exact inv_val (v := (.pointer (some ⟨p14, 10, none⟩))) (by simp [go_sem, e0]) (fun h => (by cases h)) rfl hI
                            · have e0 := slot_eq (hdep ⟨47, .data⟩ (by simp) rfl).1
                              exact inv_val (v := (.pointer (some ⟨p14, 16, none⟩))) (by simp [go_sem, e0]) (fun h => (by cases h)) rfl hI
                            · have z1 : (k : Int) < 3 := by omega
                              have e0 := slot_eq (hdep ⟨48, .data⟩ (by simp) rfl).1
                              have e1 := slot_eq (hdep ⟨2, .data⟩ (by simp) rfl).1
                              exact inv_val (v := (.pointer (some ⟨p14, 16 + k, none⟩))) (by simp [go_sem, e0, e1, z1, hlk]) (fun h => (by cases h)) rfl hI
                            · obtain ⟨v0, hc0, hf0⟩ := OG.cell hI (show 16 + k < 49 by omega)
                              have e0 := slot_eq (hdep ⟨49, .data⟩ (by simp) rfl).1
                              have e1 := slot_eq (hdep ⟨38, .data⟩ (by simp) rfl).1
                              refine inv_skip (w' := wx.setCell ⟨p14, 16 + k, none⟩ (.float .f32 o3)) ?_ rfl (OG.s3 hI (by omega) HT23.out.2.2)
                              simp [go_sem, e0, e1, hc0, hf0]
                          · intro d vs wb hd hI hA
                            have k0 : vs 0 = (.int .i64 (k : Int)) := hA 0 (by omega)
                            have k1 : vs 1 = (.int .i64 (k : Int)) := hA 1 (by omega)
                            have k2 : vs 2 = (.int .i64 (k : Int)) := hA 2 (by omega)
                            have k3 : vs 3 = (.func (.func 18) #[] #[.pointer (some ⟨p5, 0, none⟩)]) := hA 3 (by omega)
                            have k4 : vs 4 = (.int .i64 (k : Int)) := hA 4 (by omega)
                            have k5 : vs 5 = (.pointer (some ⟨p3, 10, none⟩)) := hA 5 (by omega)
                            have k6 : vs 6 = (.pointer (some ⟨p3, 10, none⟩)) := hA 6 (by omega)
                            have k7 : vs 7 = (.pointer (some ⟨p3, 10 + k, none⟩)) := hA 7 (by omega)
                            have k8 : vs 8 = (.float .f32 l1) := hA 8 (by omega)
                            have k9 : vs 9 = (.int .i64 (k : Int)) := hA 9 (by omega)
                            have k10 : vs 10 = (.pointer (some ⟨p4, 10, none⟩)) := hA 10 (by omega)
                            have k11 : vs 11 = (.pointer (some ⟨p4, 10, none⟩)) := hA 11 (by omega)
                            have k12 : vs 12 = (.pointer (some ⟨p4, 10 + k, none⟩)) := hA 12 (by omega)
                            have k13 : vs 13 = (.float .f32 m1) := hA 13 (by omega)
                            have k14 : vs 14 = (.float .f32 o1) := hA 14 (by omega)
                            have k15 : vs 15 = (.func (.func 18) #[] #[.pointer (some ⟨p5, 0, none⟩)]) := hA 15 (by omega)
                            have k16 : vs 16 = (.int .i64 (k : Int)) := hA 16 (by omega)
                            have k17 : vs 17 = (.pointer (some ⟨p3, 10, none⟩)) := hA 17 (by omega)
                            have k18 : vs 18 = (.pointer (some ⟨p3, 13, none⟩)) := hA 18 (by omega)
                            have k19 : vs 19 = (.pointer (some ⟨p3, 13 + k, none⟩)) := hA 19 (by omega)
                            have k20 : vs 20 = (.float .f32 l2) := hA 20 (by omega)
                            have k21 : vs 21 = (.int .i64 (k : Int)) := hA 21 (by omega)
                            have k22 : vs 22 = (.pointer (some ⟨p4, 10, none⟩)) := hA 22 (by omega)
                            have k23 : vs 23 = (.pointer (some ⟨p4, 13, none⟩)) := hA 23 (by omega)
                            have k24 : vs 24 = (.pointer (some ⟨p4, 13 + k, none⟩)) := hA 24 (by omega)
                            have k25 : vs 25 = (.float .f32 m2) := hA 25 (by omega)
                            have k26 : vs 26 = (.float .f32 o2) := hA 26 (by omega)
                            have k27 : vs 27 = (.func (.func 18) #[] #[.pointer (some ⟨p5, 0, none⟩)]) := hA 27 (by omega)
                            have k28 : vs 28 = (.int .i64 (k : Int)) := hA 28 (by omega)
                            have k29 : vs 29 = (.pointer (some ⟨p3, 10, none⟩)) := hA 29 (by omega)
                            have k30 : vs 30 = (.pointer (some ⟨p3, 16, none⟩)) := hA 30 (by omega)
                            have k31 : vs 31 = (.pointer (some ⟨p3, 16 + k, none⟩)) := hA 31 (by omega)
                            have k32 : vs 32 = (.float .f32 l3) := hA 32 (by omega)
                            have k33 : vs 33 = (.int .i64 (k : Int)) := hA 33 (by omega)
                            have k34 : vs 34 = (.pointer (some ⟨p4, 10, none⟩)) := hA 34 (by omega)
                            have k35 : vs 35 = (.pointer (some ⟨p4, 16, none⟩)) := hA 35 (by omega)
                            have k36 : vs 36 = (.pointer (some ⟨p4, 16 + k, none⟩)) := hA 36 (by omega)
                            have k37 : vs 37 = (.float .f32 m3) := hA 37 (by omega)
                            have k38 : vs 38 = (.float .f32 o3) := hA 38 (by omega)
                            have k39 : vs 39 = (.pointer (some ⟨p14, 10, none⟩)) := hA 39 (by omega)
                            have k40 : vs 40 = (.pointer (some ⟨p14, 10, none⟩)) := hA 40 (by omega)
                            have k41 : vs 41 = (.pointer (some ⟨p14, 10 + k, none⟩)) := hA 41 (by omega)
                            have k43 : vs 43 = (.pointer (some ⟨p14, 10, none⟩)) := hA 43 (by omega)
                            have k44 : vs 44 = (.pointer (some ⟨p14, 13, none⟩)) := hA 44 (by omega)
                            have k45 : vs 45 = (.pointer (some ⟨p14, 13 + k, none⟩)) := hA 45 (by omega)
                            have k47 : vs 47 = (.pointer (some ⟨p14, 10, none⟩)) := hA 47 (by omega)
                            have k48 : vs 48 = (.pointer (some ⟨p14, 16, none⟩)) := hA 48 (by omega)
                            have k49 : vs 49 = (.pointer (some ⟨p14, 16 + k, none⟩)) := hA 49 (by omega)
                            simp only [putAll, dstAt, List.getElem?_toArray, List.getElem?_cons_zero, List.getElem?_cons_succ, Option.bind_some, Option.bind_none, Act.put, List.setIfInBounds_toArray, List.set_cons_zero, List.set_cons_succ, k0, k1, k2, k3, k4, k5, k6, k7, k8, k9, k10, k11, k12, k13, k14, k15, k16, k17, k18, k19, k20, k21, k22, k23, k24, k25, k26, k27, k28, k29, k30, k31, k32, k33, k34, k35, k36, k37, k38, k39, k40, k41, k43, k44, k45, k47, k48, k49]
                            have hO := hI
                            simp only [hd 42 (by omega), hd 46 (by omega), hd 50 (by omega)] at hO
                            have HO23 := Lib.hid (OG.sF hO)
                            clear hI hA hd k0 k1 k2 k3 k4 k5 k6 k7 k8 k9 k10 k11 k12 k13 k14 k15 k16 k17 k18 k19 k20 k21 k22 k23 k24 k25 k26 k27 k28 k29 k30 k31 k32 k33 k34 k35 k36 k37 k38 k39 k40 k41 k43 k44 k45 k47 k48 k49 hO vs d
                            go_upto_region 24 with fail
                            clear HO22 HT22 HT23 HZ22 HZ23 R22 R23
                            refine wp_region_inv 18 (fun qz u' => if qz = 12 then ∃ bb, u' = .tuple #[.int .i64 pv, .bool bb] else if qz = 13 then ∃ bb, u' = .tuple #[.int .i64 pv, .bool bb] else if qz = 15 then ∃ bb, u' = .bool bb else if qz = 17 then ∃ bb, u' = .bool bb else u' = [(.func (.func 18) #[] #[.pointer (some ⟨p5, 0, none⟩)]), (.int .i64 (k : Int)), (.pointer (some ⟨p3, 46, none⟩)), (.pointer (some ⟨p3, 46 + k, none⟩)), (.int .i64 n), (.float .f32 cn), (.int .i64 (k : Int)), (.pointer (some ⟨p4, 46, none⟩)), (.pointer (some ⟨p4, 46 + k, none⟩)), (.int .i64 m), (.float .f32 cm), (.float .f32 lv), undef, undef, (.int .i64 pv), undef, (.int .i64 pv), undef].getD qz undef) (fun d vs w' => OG W1 (mixG a b t) p14 (fun c => (SK k c ∨ c = 1 + k ∨ c = 4 + k ∨ c = 7 + k) ∨ c = 10 + k ∨ c = 13 + k ∨ c = 16 + k) w') (by kernel_rfl) (by kernel_rfl) ?_ ?_ ?_
                            · intro vs
                              exact OG.keep HO23.out ((Below.refl _ _).drew)
                            · intro iq oq hi ho
                              rcases (by omega : iq = 0 ∨ iq = 1 ∨ iq = 2 ∨ iq = 3 ∨ iq = 4 ∨ iq = 5 ∨ iq = 6 ∨ iq = 7 ∨ iq = 8 ∨ iq = 9 ∨ iq = 10 ∨ iq = 11 ∨ iq = 12 ∨ iq = 13 ∨ iq = 14 ∨ iq = 15 ∨ iq = 16 ∨ iq = 17) with rfl | rfl | rfl | rfl | rfl | rfl | rfl | rfl | rfl | rfl | rfl | rfl | rfl | rfl | rfl | rfl | rfl | rfl
                              all_goals simp only [List.getElem?_cons_zero, List.getElem?_cons_succ, Option.some.injEq] at ho
                              all_goals subst ho
                              all_goals intro d a0 wx hI hag hdep hun
                              · have e0 := slot_eq (hag 13 rfl)
                                exact inv_val (v := (.func (.func 18) #[] #[.pointer (some ⟨p5, 0, none⟩)])) (by simp [go_sem, e0]) (fun h => (by cases h)) rfl hI
                              · have e0 := slot_eq (hag 15 rfl)
                                exact inv_val (v := (.int .i64 (k : Int))) (by simp [go_sem, e0]) (fun h => (by cases h)) rfl hI
                              · have e0 := slot_eq (hag 3 rfl)
                                exact inv_val (v := (.pointer (some ⟨p3, 46, none⟩))) (by simp [go_sem, e0]) (fun h => (by cases h)) rfl hI
                              · have z1 : (k : Int) < 3 := by omega
                                have e0 := slot_eq (hdep ⟨2, .data⟩ (by simp) rfl).1
                                have e1 := slot_eq (hdep ⟨1, .data⟩ (by simp) rfl).1
                                exact inv_val (v := (.pointer (some ⟨p3, 46 + k, none⟩))) (by simp [go_sem, e0, e1, z1, hlk]) (fun h => (by cases h)) rfl hI
                              · have r0 := (R24.out wx hI.bel).1
                                have e0 := slot_eq (hdep ⟨3, .data⟩ (by simp) rfl).1
                                exact inv_val (v := (.int .i64 n)) (by simp [go_sem, e0, r0]) (fun h => (by cases h)) rfl hI
                              · have e0 := slot_eq (hdep ⟨4, .data⟩ (by simp) rfl).1
                                refine inv_call (f := 22) (args := #[.int .i64 n]) (run_go_call Tryz.func22 (by kernel_rfl) (by kernel_rfl) _ _ _ _ _ _ _ _ _ _ (by simp [Act.eval, e0])) (fun h => (by cases h)) ?_
                                refine (ref_conv1 n wx).mono ?_
                                rintro e w' ⟨rfl, rfl⟩
                                rw [HCN.out.1]
                                exact ⟨_, rfl, rfl, hI⟩
                              · have e0 := slot_eq (hag 15 rfl)
                                exact inv_val (v := (.int .i64 (k : Int))) (by simp [go_sem, e0]) (fun h => (by cases h)) rfl hI
                              · have e0 := slot_eq (hag 4 rfl)
                                exact inv_val (v := (.pointer (some ⟨p4, 46, none⟩))) (by simp [go_sem, e0]) (fun h => (by cases h)) rfl hI
                              · have z1 : (k : Int) < 3 := by omega
                                have e0 := slot_eq (hdep ⟨7, .data⟩ (by simp) rfl).1
                                have e1 := slot_eq (hdep ⟨6, .data⟩ (by simp) rfl).1
                                exact inv_val (v := (.pointer (some ⟨p4, 46 + k, none⟩))) (by simp [go_sem, e0, e1, z1, hlk]) (fun h => (by cases h)) rfl hI
                              · have r0 := (R24.out wx hI.bel).2
                                have e0 := slot_eq (hdep ⟨8, .data⟩ (by simp) rfl).1
                                exact inv_val (v := (.int .i64 m)) (by simp [go_sem, e0, r0]) (fun h => (by cases h)) rfl hI
                              · have e0 := slot_eq (hdep ⟨9, .data⟩ (by simp) rfl).1
                                refine inv_call (f := 22) (args := #[.int .i64 m]) (run_go_call Tryz.func22 (by kernel_rfl) (by kernel_rfl) _ _ _ _ _ _ _ _ _ _ (by simp [Act.eval, e0])) (fun h => (by cases h)) ?_
                                refine (ref_conv1 m wx).mono ?_
                                rintro e w' ⟨rfl, rfl⟩
                                rw [HCN.out.2.1]
                                exact ⟨_, rfl, rfl, hI⟩
                              · have e0 := slot_eq (hdep ⟨0, .data⟩ (by simp) rfl).1
                                have e1 := slot_eq (hdep ⟨5, .data⟩ (by simp) rfl).1
                                have e2 := slot_eq (hdep ⟨10, .data⟩ (by simp) rfl).1
                                refine inv_call (f := 18) (args := #[.float .f32 cn, .float .f32 cm, .pointer (some ⟨p5, 0, none⟩)]) (run_go_callv (args := #[.float .f32 cn, .float .f32 cm, .pointer (some ⟨p5, 0, none⟩)]) Tryz.func18 (by kernel_rfl) (by kernel_rfl) _ _ _ _ _ _ _ _ _ _ _ e0 (by simp [Act.eval, e1, e2])) (fun h => (by cases h)) ?_
                                refine (ref_mixC cn cm t p5 wx (X5.out.keep hI.bel)).mono ?_
                                rintro e w' ⟨rfl, hb⟩
                                rw [HCN.out.2.2.1]
                                exact ⟨_, rfl, rfl, OG.keep hI hb⟩
                              · have e0 := slot_eq (hdep ⟨11, .data⟩ (by simp) rfl).1
                                refine inv_call (f := 21) (args := #[.float .f32 lv, .int .i64 0, .int .i64 50]) (run_go_call Tryz.func21 (by kernel_rfl) (by kernel_rfl) _ _ _ _ _ _ _ _ _ _ (by simp [Act.eval, e0])) (fun h => (by cases h)) ?_
                                refine (ref_Near50 lv wx).mono ?_
                                rintro e w' ⟨bb, rfl, rfl⟩
                                rw [HCN.out.2.2.2]
                                exact ⟨_, rfl, ⟨bb, rfl⟩, hI⟩
                              · obtain ⟨bb, hbb⟩ := (hdep ⟨12, .data⟩ (by simp) rfl).1
                                have e0 := slot_eq hbb
                                exact inv_val (v := .tuple #[.int .i64 pv, .bool bb]) (by simp [go_sem, e0]) (fun h => (by cases h)) ⟨bb, rfl⟩ hI
                              · obtain ⟨bb, hbb⟩ := (hdep ⟨13, .data⟩ (by simp) rfl).1
                                have e0 := slot_eq hbb
                                exact inv_val (v := .int .i64 pv) (by simp [go_sem, e0]) (fun h => (by cases h)) rfl hI
                              · obtain ⟨bb, hbb⟩ := (hdep ⟨13, .data⟩ (by simp) rfl).1
                                have e0 := slot_eq hbb
                                exact inv_val (v := .bool bb) (by simp [go_sem, e0]) (fun h => (by cases h)) ⟨bb, rfl⟩ hI
                              · have e0 := slot_eq (hdep ⟨14, .data⟩ (by simp) rfl).1
                                exact inv_val (v := (.int .i64 pv)) (by simp [go_sem, e0]) (fun h => (by cases h)) rfl hI
                              · obtain ⟨bb, hbb⟩ := (hdep ⟨15, .data⟩ (by simp) rfl).1
                                have e0 := slot_eq hbb
                                exact inv_val (v := .bool bb) (by simp [go_sem, e0]) (fun h => (by cases h)) ⟨bb, rfl⟩ hI
                            · intro d vs wc hd hI hA
                              have k0 : vs 0 = (.func (.func 18) #[] #[.pointer (some ⟨p5, 0, none⟩)]) := hA 0 (by omega)
                              have k1 : vs 1 = (.int .i64 (k : Int)) := hA 1 (by omega)
                              have k2 : vs 2 = (.pointer (some ⟨p3, 46, none⟩)) := hA 2 (by omega)
                              have k3 : vs 3 = (.pointer (some ⟨p3, 46 + k, none⟩)) := hA 3 (by omega)
                              have k4 : vs 4 = (.int .i64 n) := hA 4 (by omega)
                              have k5 : vs 5 = (.float .f32 cn) := hA 5 (by omega)
                              have k6 : vs 6 = (.int .i64 (k : Int)) := hA 6 (by omega)
                              have k7 : vs 7 = (.pointer (some ⟨p4, 46, none⟩)) := hA 7 (by omega)
                              have k8 : vs 8 = (.pointer (some ⟨p4, 46 + k, none⟩)) := hA 8 (by omega)
                              have k9 : vs 9 = (.int .i64 m) := hA 9 (by omega)
                              have k10 : vs 10 = (.float .f32 cm) := hA 10 (by omega)
                              have k11 : vs 11 = (.float .f32 lv) := hA 11 (by omega)
                              have k14 : vs 14 = (.int .i64 pv) := hA 14 (by omega)
                              have k16 : vs 16 = (.int .i64 pv) := hA 16 (by omega)
                              simp only [putAll, dstAt, List.getElem?_toArray, List.getElem?_cons_zero, List.getElem?_cons_succ, Option.bind_some, Option.bind_none, Act.put, List.setIfInBounds_toArray, List.set_cons_zero, List.set_cons_succ, k0, k1, k2, k3, k4, k5, k6, k7, k8, k9, k10, k11, k14, k16]
                              generalize vs 12 = ux12 at *
                              generalize vs 13 = ux13 at *
                              generalize vs 15 = ux15 at *
                              generalize vs 17 = ux17 at *
                              have HO24 := Lib.hid hI
                              clear hI hA hd k0 k1 k2 k3 k4 k5 k6 k7 k8 k9 k10 k11 k14 k16 vs d HO23
                              obtain ⟨v0, hc0, hf0⟩ := OG.cell HO24.out (show 46 + k < 49 by omega)
                              go_wp2_with fail
                              have HPT := Lib.hid (OG.put HO24.out (by omega) HT24.out)
                              go_roundw
                              case rel => exact ⟨k + 1, by omega, by go_num, Lib.hid (HPT.out.weak fun c hc => by unfold SK at hc ⊢; omega)⟩
                              case measure => simp [RowKit.intOf]; omega
                      · obtain rfl : k = 3 := by omega
                        rw [show ((3 : Nat) : Int) = 3 from rfl]
                        obtain ⟨x7, hx7⟩ : ∃ x, a.lst.getD 9 0 = x := ⟨_, rfl⟩
                        obtain ⟨y7, hy7⟩ : ∃ x, b.lst.getD 9 0 = x := ⟨_, rfl⟩
                        obtain ⟨z7, hz7⟩ : ∃ x, lerpV x7 y7 t = x := ⟨_, rfl⟩
                        obtain ⟨we, hwe⟩ : ∃ w, wr = w := ⟨_, rfl⟩
                        rw [hwe] at HOK ⊢
                        have r7 : we.cell? ⟨p3, 19, none⟩ = some (.float .f32 x7) := by rw [(X3.out.keep HOK.out.bel).all.1, HA.out.lst.2 9 (by omega), hx7]
                        have r8 : we.cell? ⟨p4, 19, none⟩ = some (.float .f32 y7) := by rw [(X4.out.keep HOK.out.bel).all.1, HB.out.lst.2 9 (by omega), hy7]
                        have HT7 : Hid (tgtF (mixG a b t) 19 = .float .f32 z7) := Lib.hid (by rw [tgt_lst (i := 9) HP2.out.lst (by omega), hx7, hy7, hz7])
                        clear hwe hx7 hy7 hk3 hlk
                        go_wp2_with fail
                        refine (ref_mixC x7 y7 t p5 we (X5.out.keep HOK.out.bel)).mono ?_
                        rintro e wf ⟨rfl, hbf⟩
                        rw [hz7]
                        have HO7 := Lib.hid (OG.keep HOK.out hbf)
                        obtain ⟨v0, hc0, hf0⟩ := OG.cell HO7.out (show 19 < 49 by omega)
                        have HO8 := Lib.hid (OG.put HO7.out (by omega) HT7.out)
                        clear r7 r8 hz7 hbf HOK
                        go_wp2_with fail
                        clear hc0 hf0
                        go_loopw [228] (fun i wr => ∃ k : Nat, k ≤ 12 ∧ i = .int .i64 (k : Int) ∧ Hid (OG W1 (mixG a b t) p14 (SM k) wr)) (fun i _ => 12 - (RowKit.intOf i).toNat)
                        case atStart => exact ⟨0, by omega, rfl, Lib.hid (HO8.out.weak fun c hc => by unfold SM at hc; rcases hc with h | h | h <;> first | exact .inl h | exact .inr h | omega)⟩
                        case round =>
                          clear HO8 HO7
                          obtain ⟨k, hk12, rfl, HOK⟩ := hrel
                          by_cases hlk : k < 12
                          · obtain ⟨x8, hx8⟩ : ∃ x, a.mix.getD k 0 = x := ⟨_, rfl⟩
                            obtain ⟨y8, hy8⟩ : ∃ x, b.mix.getD k 0 = x := ⟨_, rfl⟩
                            obtain ⟨z8, hz8⟩ : ∃ x, lerpV x8 y8 t = x := ⟨_, rfl⟩
                            have HZ8 := Lib.hid hz8
                            have R31 : Hid (∀ w, Below W1.heap.size W1 w → w.cell? ⟨p3, 32 + k, none⟩ = some (.float .f32 x8) ∧ w.cell? ⟨p4, 32 + k, none⟩ = some (.float .f32 y8)) := Lib.hid (fun w h => by
                              have h3 := (X3.out.keep h).all.1
                              have h4 := (X4.out.keep h).all.1
                              exact ⟨by rw [h3, HA.out.mix.2 k (by omega), hx8], by rw [h4, HB.out.mix.2 k (by omega), hy8]⟩)
                            have HT8 : Hid (tgtF (mixG a b t) (32 + k) = .float .f32 z8) := Lib.hid (by rw [tgt_mix HP2.out.mix (by omega), hx8, hy8, hz8])
                            clear hx8 hy8 hz8
                            have hd1 : decide ((k : Int) < 12) = true := decide_eq_true (by omega)
                            go_upto_region 31 with fail
                            clear hd1
                            refine wp_region_inv 17 (fun qz u' => u' = [(.int .i64 (k : Int)), (.func (.func 18) #[] #[.pointer (some ⟨p5, 0, none⟩)]), (.int .i64 (k : Int)), (.pointer (some ⟨p3, 32, none⟩)), (.pointer (some ⟨p3, 32, none⟩)), (.pointer (some ⟨p3, 32 + k, none⟩)), (.float .f32 x8), (.int .i64 (k : Int)), (.pointer (some ⟨p4, 32, none⟩)), (.pointer (some ⟨p4, 32, none⟩)), (.pointer (some ⟨p4, 32 + k, none⟩)), (.float .f32 y8), (.float .f32 z8), (.pointer (some ⟨p14, 32, none⟩)), (.pointer (some ⟨p14, 32, none⟩)), (.pointer (some ⟨p14, 32 + k, none⟩)), undef].getD qz undef) (fun d vs w' => OG W1 (mixG a b t) p14 (S3 (SM k) (d 16) false false (32 + k) 0 0) w') (by kernel_rfl) (by kernel_rfl) ?_ ?_ ?_
                            · intro vs
                              exact OG.keep (HOK.out.weak fun c hc => by rcases hc with h | ⟨h, _⟩ | ⟨h, _⟩ | ⟨h, _⟩ <;> first | exact h | cases h) ((Below.refl _ _).drew)
                            · intro iq oq hi ho
                              rcases (by omega : iq = 0 ∨ iq = 1 ∨ iq = 2 ∨ iq = 3 ∨ iq = 4 ∨ iq = 5 ∨ iq = 6 ∨ iq = 7 ∨ iq = 8 ∨ iq = 9 ∨ iq = 10 ∨ iq = 11 ∨ iq = 12 ∨ iq = 13 ∨ iq = 14 ∨ iq = 15 ∨ iq = 16) with rfl | rfl | rfl | rfl | rfl | rfl | rfl | rfl | rfl | rfl | rfl | rfl | rfl | rfl | rfl | rfl | rfl
                              all_goals simp only [List.getElem?_cons_zero, List.getElem?_cons_succ, Option.some.injEq] at ho
                              all_goals subst ho
                              all_goals intro d a0 wx hI hag hdep hun
                              · have e0 := slot_eq (hag 18 rfl)
                                exact inv_val (v := (.int .i64 (k : Int))) (by simp [go_sem, e0]) (fun h => (by cases h)) rfl hI
                              · have e0 := slot_eq (hag 13 rfl)
                                exact inv_val (v := (.func (.func 18) #[] #[.pointer (some ⟨p5, 0, none⟩)])) (by simp [go_sem, e0]) (fun h => (by cases h)) rfl hI
                              · have e0 := slot_eq (hag 18 rfl)
                                exact inv_val (v := (.int .i64 (k : Int))) (by simp [go_sem, e0]) (fun h => (by cases h)) rfl hI
                              · have e0 := slot_eq (hag 3 rfl)
                                exact inv_val (v := (.pointer (some ⟨p3, 32, none⟩))) (by simp [go_sem, e0]) (fun h => (by cases h)) rfl hI
                              · have e0 := slot_eq (hdep ⟨3, .data⟩ (by simp) rfl).1
                                exact inv_val (v := (.pointer (some ⟨p3, 32, none⟩))) (by simp [go_sem, e0]) (fun h => (by cases h)) rfl hI
                              · have z1 : (k : Int) < 12 := by omega
                                have e0 := slot_eq (hdep ⟨4, .data⟩ (by simp) rfl).1
                                have e1 := slot_eq (hdep ⟨2, .data⟩ (by simp) rfl).1
                                exact inv_val (v := (.pointer (some ⟨p3, 32 + k, none⟩))) (by simp [go_sem, e0, e1, z1, hlk]) (fun h => (by cases h)) rfl hI
                              · have r0 := (R31.out wx hI.bel).1
                                have e0 := slot_eq (hdep ⟨5, .data⟩ (by simp) rfl).1
                                exact inv_val (v := (.float .f32 x8)) (by simp [go_sem, e0, r0]) (fun h => (by cases h)) rfl hI
                              · have e0 := slot_eq (hag 18 rfl)
                                exact inv_val (v := (.int .i64 (k : Int))) (by simp [go_sem, e0]) (fun h => (by cases h)) rfl hI
                              · have e0 := slot_eq (hag 4 rfl)
                                exact inv_val (v := (.pointer (some ⟨p4, 32, none⟩))) (by simp [go_sem, e0]) (fun h => (by cases h)) rfl hI
                              · have e0 := slot_eq (hdep ⟨8, .data⟩ (by simp) rfl).1
                                exact inv_val (v := (.pointer (some ⟨p4, 32, none⟩))) (by simp [go_sem, e0]) (fun h => (by cases h)) rfl hI
                              · have z1 : (k : Int) < 12 := by omega
                                have e0 := slot_eq (hdep ⟨9, .data⟩ (by simp) rfl).1
                                have e1 := slot_eq (hdep ⟨7, .data⟩ (by simp) rfl).1
                                exact inv_val (v := (.pointer (some ⟨p4, 32 + k, none⟩))) (by simp [go_sem, e0, e1, z1, hlk]) (fun h => (by cases h)) rfl hI
                              · have r0 := (R31.out wx hI.bel).2
                                have e0 := slot_eq (hdep ⟨10, .data⟩ (by simp) rfl).1
                                exact inv_val (v := (.float .f32 y8)) (by simp [go_sem, e0, r0]) (fun h => (by cases h)) rfl hI
                              · have e0 := slot_eq (hdep ⟨1, .data⟩ (by simp) rfl).1
                                have e1 := slot_eq (hdep ⟨6, .data⟩ (by simp) rfl).1
                                have e2 := slot_eq (hdep ⟨11, .data⟩ (by simp) rfl).1
                                refine inv_call (f := 18) (args := #[.float .f32 x8, .float .f32 y8, .pointer (some ⟨p5, 0, none⟩)]) (run_go_callv (args := #[.float .f32 x8, .float .f32 y8, .pointer (some ⟨p5, 0, none⟩)]) Tryz.func18 (by kernel_rfl) (by kernel_rfl) _ _ _ _ _ _ _ _ _ _ _ e0 (by simp [Act.eval, e1, e2])) (fun h => (by cases h)) ?_
                                refine (ref_mixC x8 y8 t p5 wx (X5.out.keep hI.bel)).mono ?_
                                rintro e w' ⟨rfl, hb⟩
                                rw [HZ8.out]
                                exact ⟨_, rfl, rfl, OG.keep hI hb⟩
                              · have e0 := slot_eq (hag 14 rfl)
                                exact inv_val (v := (.pointer (some ⟨p14, 32, none⟩))) (by simp [go_sem, e0]) (fun h => (by cases h)) rfl hI
                              · have e0 := slot_eq (hdep ⟨13, .data⟩ (by simp) rfl).1
                                exact inv_val (v := (.pointer (some ⟨p14, 32, none⟩))) (by simp [go_sem, e0]) (fun h => (by cases h)) rfl hI
                              · have z1 : (k : Int) < 12 := by omega
                                have e0 := slot_eq (hdep ⟨14, .data⟩ (by simp) rfl).1
                                have e1 := slot_eq (hdep ⟨0, .data⟩ (by simp) rfl).1
                                exact inv_val (v := (.pointer (some ⟨p14, 32 + k, none⟩))) (by simp [go_sem, e0, e1, z1, hlk]) (fun h => (by cases h)) rfl hI
                              · obtain ⟨v0, hc0, hf0⟩ := OG.cell hI (show 32 + k < 49 by omega)
                                have e0 := slot_eq (hdep ⟨15, .data⟩ (by simp) rfl).1
                                have e1 := slot_eq (hdep ⟨12, .data⟩ (by simp) rfl).1
                                refine inv_skip (w' := wx.setCell ⟨p14, 32 + k, none⟩ (.float .f32 z8)) ?_ rfl (OG.s1 hI (by omega) HT8.out)
                                simp [go_sem, e0, e1, hc0, hf0]
                            · intro d vs wg hd hI hA
                              have k0 : vs 0 = (.int .i64 (k : Int)) := hA 0 (by omega)
                              have k1 : vs 1 = (.func (.func 18) #[] #[.pointer (some ⟨p5, 0, none⟩)]) := hA 1 (by omega)
                              have k2 : vs 2 = (.int .i64 (k : Int)) := hA 2 (by omega)
                              have k3 : vs 3 = (.pointer (some ⟨p3, 32, none⟩)) := hA 3 (by omega)
                              have k4 : vs 4 = (.pointer (some ⟨p3, 32, none⟩)) := hA 4 (by omega)
                              have k5 : vs 5 = (.pointer (some ⟨p3, 32 + k, none⟩)) := hA 5 (by omega)
                              have k6 : vs 6 = (.float .f32 x8) := hA 6 (by omega)
                              have k7 : vs 7 = (.int .i64 (k : Int)) := hA 7 (by omega)
                              have k8 : vs 8 = (.pointer (some ⟨p4, 32, none⟩)) := hA 8 (by omega)
                              have k9 : vs 9 = (.pointer (some ⟨p4, 32, none⟩)) := hA 9 (by omega)
                              have k10 : vs 10 = (.pointer (some ⟨p4, 32 + k, none⟩)) := hA 10 (by omega)
                              have k11 : vs 11 = (.float .f32 y8) := hA 11 (by omega)
                              have k12 : vs 12 = (.float .f32 z8) := hA 12 (by omega)
                              have k13 : vs 13 = (.pointer (some ⟨p14, 32, none⟩)) := hA 13 (by omega)
                              have k14 : vs 14 = (.pointer (some ⟨p14, 32, none⟩)) := hA 14 (by omega)
                              have k15 : vs 15 = (.pointer (some ⟨p14, 32 + k, none⟩)) := hA 15 (by omega)
                              simp only [putAll, dstAt, List.getElem?_toArray, List.getElem?_cons_zero, List.getElem?_cons_succ, Option.bind_some, Option.bind_none, Act.put, List.setIfInBounds_toArray, List.set_cons_zero, List.set_cons_succ, k0, k1, k2, k3, k4, k5, k6, k7, k8, k9, k10, k11, k12, k13, k14, k15]
                              have hO := hI
                              simp only [hd 16 (by omega)] at hO
                              have HO31 := Lib.hid (OG.sF1 hO)
                              clear hI hA hd k0 k1 k2 k3 k4 k5 k6 k7 k8 k9 k10 k11 k12 k13 k14 k15 hO vs d
                              go_wp2_with fail
                              go_roundw
                              case rel => exact ⟨k + 1, by omega, by go_num, Lib.hid (HO31.out.weak fun c hc => by unfold SM SK at *; omega)⟩
                              case measure => simp [RowKit.intOf]; omega
                          · obtain rfl : k = 12 := by omega
                            rw [show ((12 : Nat) : Int) = 12 from rfl]
                            have HOS := Lib.hid (OC.start HOK.out)
                            clear HOK hk12 hlk
                            go_wp2_with fail
                            go_loopw [248] (fun i wr => ∃ j : Nat, j ≤ 4 ∧ i = .int .i64 (j : Int) ∧ Hid (OC W1 (mixG a b t) p14 j wr)) (fun i _ => 4 - (RowKit.intOf i).toNat)
                            case atStart => exact ⟨0, by omega, rfl, HOS⟩
                            case round =>
                              clear HOS
                              obtain ⟨j, hj, rfl, HC⟩ := hrel
                              by_cases hlj : j < 4
                              · obtain ⟨c, hc⟩ : ∃ c, a.cvs[j]? = some c := ⟨_, List.getElem?_eq_getElem (by have := HA.out.cvs.1; omega)⟩
                                obtain ⟨d3, hd3⟩ : ∃ d, b.cvs[j]? = some d := ⟨_, List.getElem?_eq_getElem (by have := HB.out.cvs.1; omega)⟩
                                obtain ⟨xa, xc, ua, uc, _, slx, slu, m0, m1, m2⟩ := curve_cells HA.out X3.out hc
                                obtain ⟨ya, yc, va, vc, _, sly, slv, m3, m4, m5⟩ := curve_cells HB.out X4.out hd3
                                obtain ⟨cka, hcka⟩ : ∃ n, c.kind = n := ⟨_, rfl⟩
                                obtain ⟨ckb, hckb⟩ : ∃ n, d3.kind = n := ⟨_, rfl⟩
                                obtain ⟨nx, hnx⟩ : ∃ n, c.xs.length = n := ⟨_, rfl⟩
                                obtain ⟨nu, hnu⟩ : ∃ n, c.ys.length = n := ⟨_, rfl⟩
                                obtain ⟨ny, hny⟩ : ∃ n, d3.xs.length = n := ⟨_, rfl⟩
                                obtain ⟨nv, hnv⟩ : ∃ n, d3.ys.length = n := ⟨_, rfl⟩
                                rw [hcka] at m0
                                rw [hckb] at m3
                                rw [hnx] at m1 slx
                                rw [hnu] at m2 slu
                                rw [hny] at m4 sly
                                rw [hnv] at m5 slv
                                have RA3 : Hid (∀ w, Below wr.heap.size wr w → w.cell? ⟨p3, 20 + j * 3, none⟩ = some (.int .i64 cka) ∧ w.cell? ⟨p3, 20 + j * 3 + 1, none⟩ = some (.slice xa nx xc) ∧ w.cell? ⟨p3, 20 + j * 3 + 2, none⟩ = some (.slice ua nu uc)) := Lib.hid (fun w h => by
                                  have hx := (X3.out.keep (OC.bel HC.out)).keep h
                                  exact ⟨by rw [hx.all.1]; exact m0, by rw [hx.all.1]; exact m1, by rw [hx.all.1]; exact m2⟩)
                                have RB3 : Hid (∀ w, Below wr.heap.size wr w → w.cell? ⟨p4, 20 + j * 3, none⟩ = some (.int .i64 ckb) ∧ w.cell? ⟨p4, 20 + j * 3 + 1, none⟩ = some (.slice ya ny yc) ∧ w.cell? ⟨p4, 20 + j * 3 + 2, none⟩ = some (.slice va nv vc)) := Lib.hid (fun w h => by
                                  have hx := (X4.out.keep (OC.bel HC.out)).keep h
                                  exact ⟨by rw [hx.all.1]; exact m3, by rw [hx.all.1]; exact m4, by rw [hx.all.1]; exact m5⟩)
                                have hPY := HP2.out.ys hc hd3
                                have hRX := HAR.out.cvs c (List.mem_of_getElem? hc)
                                have hcvm : cvAt (mixG a b t) j = mixCv t c d3 := by
                                  rw [cvAt_mix HP2.out.cvs hlj]
                                  have e1 : cvAt a j = c := by unfold cvAt; rw [List.getD_eq_getElem?_getD, hc]; rfl
                                  have e2 : cvAt b j = d3 := by unfold cvAt; rw [List.getD_eq_getElem?_getD, hd3]; rfl
                                  rw [e1, e2]
                                obtain rfl : ny = nx := by omega
                                obtain rfl : nu = ny := by omega
                                obtain rfl : nv = nu := by omega
                                have HLN : Hid (c.xs.length = nv ∧ d3.xs.length = nv ∧ c.ys.length = nv ∧ d3.ys.length = nv ∧ nv ≤ 32) := Lib.hid ⟨hnx, hny, hnu, hnv, by omega⟩
                                have HSL : Hid (Sl W (.slice xa nv xc) c.xs ∧ Sl W (.slice ua nv uc) c.ys ∧ Sl W (.slice ya nv yc) d3.xs ∧ Sl W (.slice va nv vc) d3.ys) := Lib.hid ⟨slx, slu, sly, slv⟩
                                obtain ⟨lx, hlx⟩ : ∃ l, lerpL t c.xs d3.xs = l := ⟨_, rfl⟩
                                obtain ⟨ly, hly⟩ : ∃ l, lerpL t c.ys d3.ys = l := ⟨_, rfl⟩
                                have HMX : Hid ((cvAt (mixG a b t) j).kind = cka ∧ (cvAt (mixG a b t) j).xs = lx ∧ (cvAt (mixG a b t) j).ys = ly) := Lib.hid (by rw [hcvm]; exact ⟨hcka, hlx, hly⟩)
                                have HLL : Hid (lx.length = nv ∧ ly.length = nv ∧ nv ≤ 32) := Lib.hid ⟨by rw [← hlx]; unfold lerpL; rw [List.length_zipWith]; omega, by rw [← hly]; unfold lerpL; rw [List.length_zipWith]; omega, by omega⟩
                                have HLX := Lib.hid (And.intro hlx hly)
                                have hd1 : decide ((j : Int) < 4) = true := decide_eq_true (by omega)
                                clear hc hd3 slx slu sly slv m0 m1 m2 m3 m4 m5 hcka hckb hnx hnu hny hnv hPY hRX hcvm hlx hly
                                go_upto_region 36 with fail
                                clear hd1
                                refine wp_region_inv 12 (fun qz u' => if qz = 8 then True else if qz = 9 then True else u' = [(.int .i64 (j : Int)), (.pointer (some ⟨p3, 20, none⟩)), (.pointer (some ⟨p3, 20 + j * 3, none⟩)), (.agg #[.int .i64 cka, .slice xa nv xc, .slice ua nv uc]), (.int .i64 (j : Int)), (.pointer (some ⟨p4, 20, none⟩)), (.pointer (some ⟨p4, 20 + j * 3, none⟩)), (.agg #[.int .i64 ckb, .slice ya nv yc, .slice va nv vc]), undef, undef, undef, undef].getD qz undef) (fun d vs w' => TwoC wr #[.int .i64 cka, .slice xa nv xc, .slice ua nv uc] #[.int .i64 ckb, .slice ya nv yc, .slice va nv vc] (d 8) (d 9) (d 10) (d 11) (vs 8) (vs 9) w') (by kernel_rfl) (by kernel_rfl) ?_ ?_ ?_
                                · intro vs
                                  exact TwoC.keep (TwoC.start wr _ _ _ _) ((Below.refl _ _).drew)
                                · intro iq oq hi ho
                                  rcases (by omega : iq = 0 ∨ iq = 1 ∨ iq = 2 ∨ iq = 3 ∨ iq = 4 ∨ iq = 5 ∨ iq = 6 ∨ iq = 7 ∨ iq = 8 ∨ iq = 9 ∨ iq = 10 ∨ iq = 11) with rfl | rfl | rfl | rfl | rfl | rfl | rfl | rfl | rfl | rfl | rfl | rfl
                                  all_goals simp only [List.getElem?_cons_zero, List.getElem?_cons_succ, Option.some.injEq] at ho
                                  all_goals subst ho
                                  all_goals intro d a0 wx hI hag hdep hun
                                  · have e0 := slot_eq (hag 19 rfl)
                                    exact inv_val (v := (.int .i64 (j : Int))) (by simp [go_sem, e0]) (fun h => (by cases h)) rfl hI
                                  · have e0 := slot_eq (hag 3 rfl)
                                    exact inv_val (v := (.pointer (some ⟨p3, 20, none⟩))) (by simp [go_sem, e0]) (fun h => (by cases h)) rfl hI
                                  · have z1 : (j : Int) < 4 := by omega
                                    have e0 := slot_eq (hdep ⟨1, .data⟩ (by simp) rfl).1
                                    have e1 := slot_eq (hdep ⟨0, .data⟩ (by simp) rfl).1
                                    exact inv_val (v := (.pointer (some ⟨p3, 20 + j * 3, none⟩))) (by simp [go_sem, e0, e1, z1, hlj]) (fun h => (by cases h)) rfl hI
                                  · have hr := hI.bel
                                    have h0 := RA3.out wx hr
                                    have e0 := slot_eq (hdep ⟨2, .data⟩ (by simp) rfl).1
                                    obtain ⟨k0, k1, k2⟩ := h0
                                    exact inv_val (v := (.agg #[.int .i64 cka, .slice xa nv xc, .slice ua nv uc])) (by simp [go_sem, e0, k0, k1, k2]) (fun h => (by cases h)) rfl hI
                                  · have e0 := slot_eq (hag 19 rfl)
                                    exact inv_val (v := (.int .i64 (j : Int))) (by simp [go_sem, e0]) (fun h => (by cases h)) rfl hI
                                  · have e0 := slot_eq (hag 4 rfl)
                                    exact inv_val (v := (.pointer (some ⟨p4, 20, none⟩))) (by simp [go_sem, e0]) (fun h => (by cases h)) rfl hI
                                  · have z1 : (j : Int) < 4 := by omega
                                    have e0 := slot_eq (hdep ⟨5, .data⟩ (by simp) rfl).1
                                    have e1 := slot_eq (hdep ⟨4, .data⟩ (by simp) rfl).1
                                    exact inv_val (v := (.pointer (some ⟨p4, 20 + j * 3, none⟩))) (by simp [go_sem, e0, e1, z1, hlj]) (fun h => (by cases h)) rfl hI
                                  · have hr := hI.bel
                                    have h0 := RB3.out wx hr
                                    have e0 := slot_eq (hdep ⟨6, .data⟩ (by simp) rfl).1
                                    obtain ⟨k0, k1, k2⟩ := h0
                                    exact inv_val (v := (.agg #[.int .i64 ckb, .slice ya nv yc, .slice va nv vc])) (by simp [go_sem, e0, k0, k1, k2]) (fun h => (by cases h)) rfl hI
                                  · exact inv_val (v := .pointer (some ⟨wx.heap.size, 0, none⟩)) (w' := wx.alloc (.cells #[.int .i64 0, .slice none 0 0, .slice none 0 0] 30)) (by simp [go_sem]) (fun h => (by cases h)) trivial (TwoC.set8 hI hun)
                                  · exact inv_val (v := .pointer (some ⟨wx.heap.size, 0, none⟩)) (w' := wx.alloc (.cells #[.int .i64 0, .slice none 0 0, .slice none 0 0] 30)) (by simp [go_sem]) (fun h => (by cases h)) trivial (TwoC.set9 hI hun)
                                  · obtain ⟨pp, hv, hx⟩ := hI.b8 (hdep ⟨8, .data⟩ (by simp) rfl).2
                                    have e0 := slot_eq hv
                                    have e1 := slot_eq (hdep ⟨3, .data⟩ (by simp) rfl).1
                                    rw [hun, if_neg (by decide)] at hx
                                    have hx4 := hx.all
                                    have c0 := hx4.1 0
                                    have c1 := hx4.1 1
                                    have c2 := hx4.1 2
                                    have hfz := hx4.2.1
                                    simp only [List.getElem?_toArray, List.getElem?_cons_zero, List.getElem?_cons_succ] at c0 c1 c2
                                    have hS := TwoC.set10 hI hv (hdep ⟨8, .data⟩ (by simp) rfl).2 hun
                                    refine inv_skip (w' := ((wx.setCell ⟨pp, 0, none⟩ _).setCell ⟨pp, 1, none⟩ _).setCell ⟨pp, 2, none⟩ _) ?_ rfl hS
                                    clear hS hI hag hdep hx hx4 hv
                                    simp [go_sem, e0, e1, c0, c1, c2, hfz]
                                  · obtain ⟨pp, hv, hx⟩ := hI.b9 (hdep ⟨9, .data⟩ (by simp) rfl).2
                                    have e0 := slot_eq hv
                                    have e1 := slot_eq (hdep ⟨7, .data⟩ (by simp) rfl).1
                                    rw [hun, if_neg (by decide)] at hx
                                    have hx4 := hx.all
                                    have c0 := hx4.1 0
                                    have c1 := hx4.1 1
                                    have c2 := hx4.1 2
                                    have hfz := hx4.2.1
                                    simp only [List.getElem?_toArray, List.getElem?_cons_zero, List.getElem?_cons_succ] at c0 c1 c2
                                    have hS := TwoC.set11 hI hv (hdep ⟨9, .data⟩ (by simp) rfl).2 hun
                                    refine inv_skip (w' := ((wx.setCell ⟨pp, 0, none⟩ _).setCell ⟨pp, 1, none⟩ _).setCell ⟨pp, 2, none⟩ _) ?_ rfl hS
                                    clear hS hI hag hdep hx hx4 hv
                                    simp [go_sem, e0, e1, c0, c1, c2, hfz]
                                · intro d vs wz hd hI hA
                                  have k0 : vs 0 = (.int .i64 (j : Int)) := hA 0 (by omega)
                                  have k1 : vs 1 = (.pointer (some ⟨p3, 20, none⟩)) := hA 1 (by omega)
                                  have k2 : vs 2 = (.pointer (some ⟨p3, 20 + j * 3, none⟩)) := hA 2 (by omega)
                                  have k3 : vs 3 = (.agg #[.int .i64 cka, .slice xa nv xc, .slice ua nv uc]) := hA 3 (by omega)
                                  have k4 : vs 4 = (.int .i64 (j : Int)) := hA 4 (by omega)
                                  have k5 : vs 5 = (.pointer (some ⟨p4, 20, none⟩)) := hA 5 (by omega)
                                  have k6 : vs 6 = (.pointer (some ⟨p4, 20 + j * 3, none⟩)) := hA 6 (by omega)
                                  have k7 : vs 7 = (.agg #[.int .i64 ckb, .slice ya nv yc, .slice va nv vc]) := hA 7 (by omega)
                                  simp only [putAll, dstAt, List.getElem?_toArray, List.getElem?_cons_zero, List.getElem?_cons_succ, Option.bind_some, Option.bind_none, Act.put, List.setIfInBounds_toArray, List.set_cons_zero, List.set_cons_succ, k0, k1, k2, k3, k4, k5, k6, k7]
                                  have hI6 : TwoC wr #[.int .i64 cka, .slice xa nv xc, .slice ua nv uc] #[.int .i64 ckb, .slice ya nv yc, .slice va nv vc] true true true true (vs 8) (vs 9) wz := by
                                    have h := hI
                                    simp only [hd 8 (by omega), hd 9 (by omega), hd 10 (by omega), hd 11 (by omega)] at h
                                    exact h
                                  obtain ⟨pA, hvA, hxA⟩ := hI6.b8 rfl
                                  obtain ⟨pB, hvB, hxB⟩ := hI6.b9 rfl
                                  rw [hvA, hvB]
                                  rw [if_pos rfl] at hxA hxB
                                  have XA := Lib.hid hxA
                                  have XB := Lib.hid hxB
                                  have HTW := Lib.hid hI6.bel
                                  clear hI hA hd k0 k1 k2 k3 k4 k5 k6 k7 hI6 hvA hvB hxA hxB
                                  have HBz : Hid (Below W1.heap.size W1 wz) := Lib.hid ((OC.bel HC.out).trans (HTW.out.mono (OC.bel HC.out).size))
                                  have r0 := XA.out.all.1 0
                                  simp only [List.getElem?_toArray, List.getElem?_cons_zero, List.getElem?_cons_succ] at r0
                                  go_upto_region 38 with fail
                                  clear r0
                                  refine name_world ?_
                                  intro V hV
                                  have hX22 : Bx V wz.heap.size 30 #[.int .i64 cka, .slice none 0 0, .slice none 0 0] := by
                                    rw [hV]
                                    exact Bx.new wz 30 _
                                  have hVB : Below wz.heap.size wz V := by
                                    rw [hV]
                                    exact bnew (Below.refl _ _)
                                  have HTR : Hid (TR2 wz wz.heap.size cka 1 2 [] [] 0 0 (.slice none 0 0) (.slice none 0 0) false false false false false false false false undef undef undef undef V) := Lib.hid ⟨hVB, Nat.le_refl _, ⟨by omega, .inl rfl, .inr rfl⟩, ⟨_, hX22, rfl, rfl, rfl, rfl⟩, World.ownsRow_nil _ _ _ _, World.ownsRow_nil _ _ _ _, fun g e => (by cases e), fun e => (by cases e), fun e => (by cases e), fun e => (by cases e), fun e => (by cases e), fun e => (by cases e), fun e => (by cases e)⟩
                                  obtain ⟨p22, hp22⟩ : ∃ p, wz.heap.size = p := ⟨_, rfl⟩
                                  have r1 := (XA.out.keep hVB).all.1 1
                                  simp only [List.getElem?_toArray, List.getElem?_cons_zero, List.getElem?_cons_succ] at r1
                                  rw [hp22]
                                  have HTR : Hid (TR2 wz p22 cka 1 2 [] [] 0 0 (.slice none 0 0) (.slice none 0 0) false false false false false false false false undef undef undef undef V) := Lib.hid (hp22 ▸ HTR.out)
                                  have HP22 := Lib.hid hp22
                                  clear hV hX22 hVB hp22
                                  go_wp2_with fail
                                  clear r1
                                  go_loopw [265] (fun i wv => ∃ (k : Nat) (u1 u2 : Value), k ≤ nv ∧ i = .int .i64 (k : Int) ∧ Hid (TR2 wz p22 cka 1 2 (lx.take k) (ly.take k) 0 0 u1 u2 false false false false false false false false undef undef undef undef wv)) (fun i _ => nv - (RowKit.intOf i).toNat)
                                  case atStart => exact ⟨0, (.slice none 0 0), (.slice none 0 0), Nat.zero_le _, rfl, HTR⟩
                                  case round =>
                                    clear HTR
                                    obtain ⟨k, u1, u2, hk, rfl, HTK⟩ := hrel
                                    by_cases hlk : k < nv
                                    · have hne : ∀ (v : Value) (xs : List Nat), xs.length = nv → Sl W v xs → ∃ g o c, v = .slice (some ⟨g, o, none⟩) nv c ∧ Rd W g o xs := fun v xs hl h => by
                                        rcases h with ⟨g, o, c, h1, _, h3⟩ | ⟨h1, _⟩
                                        · exact ⟨g, o, c, by rw [h1, hl], h3⟩
                                        · rw [h1] at hl; simp at hl; omega
                                      obtain ⟨g1, o1, c1, e1, rd1⟩ := hne _ _ HLN.out.1 HSL.out.1
                                      obtain ⟨g3, o3, c3, e3, rd3⟩ := hne _ _ HLN.out.2.2.1 HSL.out.2.1
                                      obtain ⟨g2, o2, c2, e2, rd2⟩ := hne _ _ HLN.out.2.1 HSL.out.2.2.1
                                      obtain ⟨g4, o4, c4, e4, rd4⟩ := hne _ _ HLN.out.2.2.2.1 HSL.out.2.2.2
                                      obtain ⟨rfl, rfl⟩ : xa = some ⟨g1, o1, none⟩ ∧ xc = c1 := by simpa using e1
                                      obtain ⟨rfl, rfl⟩ : ua = some ⟨g3, o3, none⟩ ∧ uc = c3 := by simpa using e3
                                      obtain ⟨rfl, rfl⟩ : ya = some ⟨g2, o2, none⟩ ∧ yc = c2 := by simpa using e2
                                      obtain ⟨rfl, rfl⟩ : va = some ⟨g4, o4, none⟩ ∧ vc = c4 := by simpa using e4
                                      clear e1 e2 e3 e4 hne
                                      obtain ⟨x1, hx1⟩ : ∃ x, c.xs.getD k 0 = x := ⟨_, rfl⟩
                                      obtain ⟨y1, hy1⟩ : ∃ x, d3.xs.getD k 0 = x := ⟨_, rfl⟩
                                      obtain ⟨x2, hx2⟩ : ∃ x, c.ys.getD k 0 = x := ⟨_, rfl⟩
                                      obtain ⟨y2, hy2⟩ : ∃ x, d3.ys.getD k 0 = x := ⟨_, rfl⟩
                                      obtain ⟨z1, hz1⟩ : ∃ x, lerpV x1 y1 t = x := ⟨_, rfl⟩
                                      obtain ⟨z2, hz2⟩ : ∃ x, lerpV x2 y2 t = x := ⟨_, rfl⟩
                                      have HZ41 := Lib.hid (And.intro hz1 hz2)
                                      have HSN : Hid (lx.take (k + 1) = lx.take k ++ [z1] ∧ ly.take (k + 1) = ly.take k ++ [z2]) := Lib.hid (by
                                        have h := HLN.out
                                        rw [← HLX.out.1, ← HLX.out.2, lerpL_snoc (by omega) (by omega), lerpL_snoc (by omega) (by omega), hx1, hy1, hx2, hy2, hz1, hz2]
                                        exact ⟨rfl, rfl⟩)
                                      have R41 : Hid (∀ w, Below wz.heap.size wz w → w.cell? ⟨pA, 1, none⟩ = some (.slice (some ⟨g1, o1, none⟩) nv xc) ∧ w.cell? ⟨pA, 2, none⟩ = some (.slice (some ⟨g3, o3, none⟩) nv uc) ∧ w.cell? ⟨pB, 1, none⟩ = some (.slice (some ⟨g2, o2, none⟩) nv yc) ∧ w.cell? ⟨pB, 2, none⟩ = some (.slice (some ⟨g4, o4, none⟩) nv vc) ∧
                                          w.cell? ⟨g1, o1 + k, none⟩ = some (.float .f32 x1) ∧ w.cell? ⟨g2, o2 + k, none⟩ = some (.float .f32 y1) ∧ w.cell? ⟨g3, o3 + k, none⟩ = some (.float .f32 x2) ∧ w.cell? ⟨g4, o4 + k, none⟩ = some (.float .f32 y2)) := Lib.hid (fun w h => by
                                        have hA := (XA.out.keep h).all.1
                                        have hB := (XB.out.keep h).all.1
                                        have hW : Below W.heap.size W w := (HW1.out.trans (HBz.out.mono HW1.out.size)).trans (h.mono (HW1.out.trans (HBz.out.mono HW1.out.size)).size)
                                        have hl := HLN.out
                                        refine ⟨by rw [hA]; rfl, by rw [hA]; rfl, by rw [hB]; rfl, by rw [hB]; rfl, ?_, ?_, ?_, ?_⟩
                                        · rw [(rd1.keep hW).cell k (by omega), hx1]
                                        · rw [(rd2.keep hW).cell k (by omega), hy1]
                                        · rw [(rd3.keep hW).cell k (by omega), hx2]
                                        · rw [(rd4.keep hW).cell k (by omega), hy2])
                                      obtain ⟨q1, n1, d1, hf1⟩ := HTK.out.own1.form
                                      obtain ⟨q2, n2, d2, hf2⟩ := HTK.out.own2.form
                                      have HF1 : Hid (u1 = .slice q1 n1 d1) := Lib.hid hf1
                                      have HF2 : Hid (u2 = .slice q2 n2 d2) := Lib.hid hf2
                                      clear rd1 rd2 rd3 rd4 hx1 hy1 hx2 hy2 hz1 hz2 hf1 hf2
                                      have hd1 : decide ((k : Int) < (nv : Int)) = true := decide_eq_true (by omega)
                                      go_upto_region 41 with fail
                                      clear hd1
                                      refine wp_region_inv 36 (fun qz u' => if qz = 14 then True else if qz = 15 then True else if qz = 30 then True else if qz = 31 then True else u' = [(.pointer (some ⟨p22, 1, none⟩)), u1, (.func (.func 18) #[] #[.pointer (some ⟨p5, 0, none⟩)]), (.pointer (some ⟨pA, 1, none⟩)), (.slice (some ⟨g1, o1, none⟩) nv xc), (.int .i64 (k : Int)), (.pointer (some ⟨g1, o1 + k, none⟩)), (.float .f32 x1), (.pointer (some ⟨pB, 1, none⟩)), (.slice (some ⟨g2, o2, none⟩) nv yc), (.int .i64 (k : Int)), (.pointer (some ⟨g2, o2 + k, none⟩)), (.float .f32 y1), (.float .f32 z1), undef, undef, (.pointer (some ⟨p22, 2, none⟩)), u2, (.func (.func 18) #[] #[.pointer (some ⟨p5, 0, none⟩)]), (.pointer (some ⟨pA, 2, none⟩)), (.slice (some ⟨g3, o3, none⟩) nv uc), (.int .i64 (k : Int)), (.pointer (some ⟨g3, o3 + k, none⟩)), (.float .f32 x2), (.pointer (some ⟨pB, 2, none⟩)), (.slice (some ⟨g4, o4, none⟩) nv vc), (.int .i64 (k : Int)), (.pointer (some ⟨g4, o4 + k, none⟩)), (.float .f32 y2), (.float .f32 z2), undef, undef, (.pointer (some ⟨p22, 1, none⟩)), undef, (.pointer (some ⟨p22, 2, none⟩)), undef].getD qz undef) (fun d vs w' => TR2 wz p22 cka 1 2 (lx.take k) (ly.take k) z1 z2 u1 u2 (d 1) (d 14) (d 15) (d 33) (d 17) (d 30) (d 31) (d 35) (vs 14) (vs 15) (vs 30) (vs 31) w') (by kernel_rfl) (by kernel_rfl) ?_ ?_ ?_
                                      · intro vs
                                        exact TR2.keep (TR2.turn HTK.out _ _ _ _ _ _) ((Below.refl _ _).drew)
                                      · intro iq oq hi ho
                                        rcases (by omega : iq = 0 ∨ iq = 1 ∨ iq = 2 ∨ iq = 3 ∨ iq = 4 ∨ iq = 5 ∨ iq = 6 ∨ iq = 7 ∨ iq = 8 ∨ iq = 9 ∨ iq = 10 ∨ iq = 11 ∨ iq = 12 ∨ iq = 13 ∨ iq = 14 ∨ iq = 15 ∨ iq = 16 ∨ iq = 17 ∨ iq = 18 ∨ iq = 19 ∨ iq = 20 ∨ iq = 21 ∨ iq = 22 ∨ iq = 23 ∨ iq = 24 ∨ iq = 25 ∨ iq = 26 ∨ iq = 27 ∨ iq = 28 ∨ iq = 29 ∨ iq = 30 ∨ iq = 31 ∨ iq = 32 ∨ iq = 33 ∨ iq = 34 ∨ iq = 35) with rfl | rfl | rfl | rfl | rfl | rfl | rfl | rfl | rfl | rfl | rfl | rfl | rfl | rfl | rfl | rfl | rfl | rfl | rfl | rfl | rfl | rfl | rfl | rfl | rfl | rfl | rfl | rfl | rfl | rfl | rfl | rfl | rfl | rfl | rfl | rfl
                                        all_goals simp only [List.getElem?_cons_zero, List.getElem?_cons_succ, Option.some.injEq] at ho
                                        all_goals subst ho
                                        all_goals intro d a0 wx hI hag hdep hun
                                        · have e0 := slot_eq (hag 22 rfl)
                                          exact inv_val (v := (.pointer (some ⟨p22, 1, none⟩))) (by simp [go_sem, e0]) (fun h => (by cases h)) rfl hI
                                        · have r0 := (TR2.load hI hun)
                                          rw [HF1.out] at r0
                                          have e0 := slot_eq (hdep ⟨0, .data⟩ (by simp) rfl).1
                                          refine inv_val (v := u1) ?_ (fun h => (by cases h)) rfl (TR2.loaded hI)
                                          rw [HF1.out]
                                          simp [go_sem, e0, r0]
                                        · have e0 := slot_eq (hag 13 rfl)
                                          exact inv_val (v := (.func (.func 18) #[] #[.pointer (some ⟨p5, 0, none⟩)])) (by simp [go_sem, e0]) (fun h => (by cases h)) rfl hI
                                        · have e0 := slot_eq (hag 20 rfl)
                                          exact inv_val (v := (.pointer (some ⟨pA, 1, none⟩))) (by simp [go_sem, e0]) (fun h => (by cases h)) rfl hI
                                        · have r0 := (R41.out wx hI.bel).1
                                          have e0 := slot_eq (hdep ⟨3, .data⟩ (by simp) rfl).1
                                          exact inv_val (v := (.slice (some ⟨g1, o1, none⟩) nv xc)) (by simp [go_sem, e0, r0]) (fun h => (by cases h)) rfl hI
                                        · have e0 := slot_eq (hag 23 rfl)
                                          exact inv_val (v := (.int .i64 (k : Int))) (by simp [go_sem, e0]) (fun h => (by cases h)) rfl hI
                                        · have z9 : (k : Int) < (nv : Int) := by omega
                                          have e0 := slot_eq (hdep ⟨4, .data⟩ (by simp) rfl).1
                                          have e1 := slot_eq (hdep ⟨5, .data⟩ (by simp) rfl).1
                                          exact inv_val (v := (.pointer (some ⟨g1, o1 + k, none⟩))) (by simp [go_sem, e0, e1, z9, hlk]) (fun h => (by cases h)) rfl hI
                                        · have r0 := (R41.out wx hI.bel).2.2.2.2.1
                                          have e0 := slot_eq (hdep ⟨6, .data⟩ (by simp) rfl).1
                                          exact inv_val (v := (.float .f32 x1)) (by simp [go_sem, e0, r0]) (fun h => (by cases h)) rfl hI
                                        · have e0 := slot_eq (hag 21 rfl)
                                          exact inv_val (v := (.pointer (some ⟨pB, 1, none⟩))) (by simp [go_sem, e0]) (fun h => (by cases h)) rfl hI
                                        · have r0 := (R41.out wx hI.bel).2.2.1
                                          have e0 := slot_eq (hdep ⟨8, .data⟩ (by simp) rfl).1
                                          exact inv_val (v := (.slice (some ⟨g2, o2, none⟩) nv yc)) (by simp [go_sem, e0, r0]) (fun h => (by cases h)) rfl hI
                                        · have e0 := slot_eq (hag 23 rfl)
                                          exact inv_val (v := (.int .i64 (k : Int))) (by simp [go_sem, e0]) (fun h => (by cases h)) rfl hI
                                        · have z9 : (k : Int) < (nv : Int) := by omega
                                          have e0 := slot_eq (hdep ⟨9, .data⟩ (by simp) rfl).1
                                          have e1 := slot_eq (hdep ⟨10, .data⟩ (by simp) rfl).1
                                          exact inv_val (v := (.pointer (some ⟨g2, o2 + k, none⟩))) (by simp [go_sem, e0, e1, z9, hlk]) (fun h => (by cases h)) rfl hI
                                        · have r0 := (R41.out wx hI.bel).2.2.2.2.2.1
                                          have e0 := slot_eq (hdep ⟨11, .data⟩ (by simp) rfl).1
                                          exact inv_val (v := (.float .f32 y1)) (by simp [go_sem, e0, r0]) (fun h => (by cases h)) rfl hI
                                        · have e0 := slot_eq (hdep ⟨2, .data⟩ (by simp) rfl).1
                                          have e1 := slot_eq (hdep ⟨7, .data⟩ (by simp) rfl).1
                                          have e2 := slot_eq (hdep ⟨12, .data⟩ (by simp) rfl).1
                                          refine inv_call (f := 18) (args := #[.float .f32 x1, .float .f32 y1, .pointer (some ⟨p5, 0, none⟩)]) (run_go_callv (args := #[.float .f32 x1, .float .f32 y1, .pointer (some ⟨p5, 0, none⟩)]) Tryz.func18 (by kernel_rfl) (by kernel_rfl) _ _ _ _ _ _ _ _ _ _ _ e0 (by simp [Act.eval, e1, e2])) (fun h => (by cases h)) ?_
                                          refine (ref_mixC x1 y1 t p5 wx (X5.out.keep (HBz.out.trans (hI.bel.mono HBz.out.size)))).mono ?_
                                          rintro e w' ⟨rfl, hb⟩
                                          rw [HZ41.out.1]
                                          exact ⟨_, rfl, rfl, TR2.keep hI hb⟩
                                        · have e0 := slot_eq (hdep ⟨13, .data⟩ (by simp) rfl).1
                                          exact inv_val (v := .slice (some ⟨wx.heap.size, 0, none⟩) 1 1) (w' := wx.alloc (.cells #[.float .f32 z1] 22)) (by simp [go_sem, e0]) (fun h => (by cases h)) trivial (TR2.arg hI)
                                        · have h1 : d 1 = true := (hdep ⟨1, .data⟩ (by simp) rfl).2
                                          have h2 : d 14 = true := (hdep ⟨14, .data⟩ (by simp) rfl).2
                                          have hT := hI
                                          obtain ⟨gg, hv, hx, _, _⟩ := hT.arg1 h2 hun
                                          have ho := hT.own1
                                          rw [hun] at ho
                                          have e0 := slot_eq (hdep ⟨1, .data⟩ (by simp) rfl).1
                                          have e1 := slot_eq hv
                                          refine inv_app (B := wz.heap.size) (x := z1) (v := u1) (L := lx.take k) (.tmp 269) (.tmp 282) rfl (by simp [Act.eval, e0]) gg 1 (by simp [Act.eval, e1]) ho hx (by have := HLL.out; rw [List.length_take]; omega) hT.bel.size (fun h => (by cases h)) fun nv' w' how hgr hat => ⟨trivial, ?_⟩
                                          exact (TR2.app2 hT h1 h2 hun how hgr hat)
                                        · have e0 := slot_eq (hag 22 rfl)
                                          exact inv_val (v := (.pointer (some ⟨p22, 2, none⟩))) (by simp [go_sem, e0]) (fun h => (by cases h)) rfl hI
                                        · have r0 := (TR2.load (TR2.swap hI) hun)
                                          rw [HF2.out] at r0
                                          have e0 := slot_eq (hdep ⟨16, .data⟩ (by simp) rfl).1
                                          refine inv_val (v := u2) ?_ (fun h => (by cases h)) rfl (TR2.swap (TR2.loaded (TR2.swap hI)))
                                          rw [HF2.out]
                                          simp [go_sem, e0, r0]
                                        · have e0 := slot_eq (hag 13 rfl)
                                          exact inv_val (v := (.func (.func 18) #[] #[.pointer (some ⟨p5, 0, none⟩)])) (by simp [go_sem, e0]) (fun h => (by cases h)) rfl hI
                                        · have e0 := slot_eq (hag 20 rfl)
                                          exact inv_val (v := (.pointer (some ⟨pA, 2, none⟩))) (by simp [go_sem, e0]) (fun h => (by cases h)) rfl hI
                                        · have r0 := (R41.out wx hI.bel).2.1
                                          have e0 := slot_eq (hdep ⟨19, .data⟩ (by simp) rfl).1
                                          exact inv_val (v := (.slice (some ⟨g3, o3, none⟩) nv uc)) (by simp [go_sem, e0, r0]) (fun h => (by cases h)) rfl hI
                                        · have e0 := slot_eq (hag 23 rfl)
                                          exact inv_val (v := (.int .i64 (k : Int))) (by simp [go_sem, e0]) (fun h => (by cases h)) rfl hI
                                        · have z9 : (k : Int) < (nv : Int) := by omega
                                          have e0 := slot_eq (hdep ⟨20, .data⟩ (by simp) rfl).1
                                          have e1 := slot_eq (hdep ⟨21, .data⟩ (by simp) rfl).1
                                          exact inv_val (v := (.pointer (some ⟨g3, o3 + k, none⟩))) (by simp [go_sem, e0, e1, z9, hlk]) (fun h => (by cases h)) rfl hI
                                        · have r0 := (R41.out wx hI.bel).2.2.2.2.2.2.1
                                          have e0 := slot_eq (hdep ⟨22, .data⟩ (by simp) rfl).1
                                          exact inv_val (v := (.float .f32 x2)) (by simp [go_sem, e0, r0]) (fun h => (by cases h)) rfl hI
                                        · have e0 := slot_eq (hag 21 rfl)
                                          exact inv_val (v := (.pointer (some ⟨pB, 2, none⟩))) (by simp [go_sem, e0]) (fun h => (by cases h)) rfl hI
                                        · have r0 := (R41.out wx hI.bel).2.2.2.1
                                          have e0 := slot_eq (hdep ⟨24, .data⟩ (by simp) rfl).1
                                          exact inv_val (v := (.slice (some ⟨g4, o4, none⟩) nv vc)) (by simp [go_sem, e0, r0]) (fun h => (by cases h)) rfl hI
                                        · have e0 := slot_eq (hag 23 rfl)
                                          exact inv_val (v := (.int .i64 (k : Int))) (by simp [go_sem, e0]) (fun h => (by cases h)) rfl hI
                                        · have z9 : (k : Int) < (nv : Int) := by omega
                                          have e0 := slot_eq (hdep ⟨25, .data⟩ (by simp) rfl).1
                                          have e1 := slot_eq (hdep ⟨26, .data⟩ (by simp) rfl).1
                                          exact inv_val (v := (.pointer (some ⟨g4, o4 + k, none⟩))) (by simp [go_sem, e0, e1, z9, hlk]) (fun h => (by cases h)) rfl hI
                                        · have r0 := (R41.out wx hI.bel).2.2.2.2.2.2.2
                                          have e0 := slot_eq (hdep ⟨27, .data⟩ (by simp) rfl).1
                                          exact inv_val (v := (.float .f32 y2)) (by simp [go_sem, e0, r0]) (fun h => (by cases h)) rfl hI
                                        · have e0 := slot_eq (hdep ⟨18, .data⟩ (by simp) rfl).1
                                          have e1 := slot_eq (hdep ⟨23, .data⟩ (by simp) rfl).1
                                          have e2 := slot_eq (hdep ⟨28, .data⟩ (by simp) rfl).1
                                          refine inv_call (f := 18) (args := #[.float .f32 x2, .float .f32 y2, .pointer (some ⟨p5, 0, none⟩)]) (run_go_callv (args := #[.float .f32 x2, .float .f32 y2, .pointer (some ⟨p5, 0, none⟩)]) Tryz.func18 (by kernel_rfl) (by kernel_rfl) _ _ _ _ _ _ _ _ _ _ _ e0 (by simp [Act.eval, e1, e2])) (fun h => (by cases h)) ?_
                                          refine (ref_mixC x2 y2 t p5 wx (X5.out.keep (HBz.out.trans (hI.bel.mono HBz.out.size)))).mono ?_
                                          rintro e w' ⟨rfl, hb⟩
                                          rw [HZ41.out.2]
                                          exact ⟨_, rfl, rfl, TR2.keep hI hb⟩
                                        · have e0 := slot_eq (hdep ⟨29, .data⟩ (by simp) rfl).1
                                          exact inv_val (v := .slice (some ⟨wx.heap.size, 0, none⟩) 1 1) (w' := wx.alloc (.cells #[.float .f32 z2] 22)) (by simp [go_sem, e0]) (fun h => (by cases h)) trivial (TR2.swap (TR2.arg (TR2.swap hI)))
                                        · have h1 : d 17 = true := (hdep ⟨17, .data⟩ (by simp) rfl).2
                                          have h2 : d 30 = true := (hdep ⟨30, .data⟩ (by simp) rfl).2
                                          have hT := (TR2.swap hI)
                                          obtain ⟨gg, hv, hx, _, _⟩ := hT.arg1 h2 hun
                                          have ho := hT.own1
                                          rw [hun] at ho
                                          have e0 := slot_eq (hdep ⟨17, .data⟩ (by simp) rfl).1
                                          have e1 := slot_eq hv
                                          refine inv_app (B := wz.heap.size) (x := z2) (v := u2) (L := ly.take k) (.tmp 285) (.tmp 298) rfl (by simp [Act.eval, e0]) gg 1 (by simp [Act.eval, e1]) ho hx (by have := HLL.out; rw [List.length_take]; omega) hT.bel.size (fun h => (by cases h)) fun nv' w' how hgr hat => ⟨trivial, ?_⟩
                                          exact (TR2.swap (TR2.app2 hT h1 h2 hun how hgr hat))
                                        · have e0 := slot_eq (hag 22 rfl)
                                          exact inv_val (v := (.pointer (some ⟨p22, 1, none⟩))) (by simp [go_sem, e0]) (fun h => (by cases h)) rfl hI
                                        · obtain ⟨v0, hc0, hf0⟩ := TR2.st hI
                                          have e0 := slot_eq (hdep ⟨32, .data⟩ (by simp) rfl).1
                                          have hn : d 15 = true := (hdep ⟨15, .data⟩ (by simp) rfl).2
                                          have hS := TR2.store hI hn
                                          have ho := hI.own1
                                          rw [hn] at ho
                                          obtain ⟨a0', n0, c0, hf⟩ := ho.form
                                          have e1 := slot_eq hf
                                          refine inv_skip (w' := wx.setCell ⟨p22, 1, none⟩ (.slice a0' n0 c0)) ?_ rfl ?_
                                          · simp [go_sem, e0, e1, hc0, hf0]
                                          · rw [← hf]
                                            exact hS
                                        · have e0 := slot_eq (hag 22 rfl)
                                          exact inv_val (v := (.pointer (some ⟨p22, 2, none⟩))) (by simp [go_sem, e0]) (fun h => (by cases h)) rfl hI
                                        · obtain ⟨v0, hc0, hf0⟩ := TR2.st (TR2.swap hI)
                                          have e0 := slot_eq (hdep ⟨34, .data⟩ (by simp) rfl).1
                                          have hn : d 31 = true := (hdep ⟨31, .data⟩ (by simp) rfl).2
                                          have hS := TR2.store (TR2.swap hI) hn
                                          have ho := (TR2.swap hI).own1
                                          rw [hn] at ho
                                          obtain ⟨a0', n0, c0, hf⟩ := ho.form
                                          have e1 := slot_eq hf
                                          refine inv_skip (w' := wx.setCell ⟨p22, 2, none⟩ (.slice a0' n0 c0)) ?_ rfl ?_
                                          · simp [go_sem, e0, e1, hc0, hf0]
                                          · rw [← hf]
                                            exact TR2.swap hS
                                      · intro d vs wk hd hI hA
                                        have k0 : vs 0 = (.pointer (some ⟨p22, 1, none⟩)) := hA 0 (by omega)
                                        have k1 : vs 1 = u1 := hA 1 (by omega)
                                        have k2 : vs 2 = (.func (.func 18) #[] #[.pointer (some ⟨p5, 0, none⟩)]) := hA 2 (by omega)
                                        have k3 : vs 3 = (.pointer (some ⟨pA, 1, none⟩)) := hA 3 (by omega)
                                        have k4 : vs 4 = (.slice (some ⟨g1, o1, none⟩) nv xc) := hA 4 (by omega)
                                        have k5 : vs 5 = (.int .i64 (k : Int)) := hA 5 (by omega)
                                        have k6 : vs 6 = (.pointer (some ⟨g1, o1 + k, none⟩)) := hA 6 (by omega)
                                        have k7 : vs 7 = (.float .f32 x1) := hA 7 (by omega)
                                        have k8 : vs 8 = (.pointer (some ⟨pB, 1, none⟩)) := hA 8 (by omega)
                                        have k9 : vs 9 = (.slice (some ⟨g2, o2, none⟩) nv yc) := hA 9 (by omega)
                                        have k10 : vs 10 = (.int .i64 (k : Int)) := hA 10 (by omega)
                                        have k11 : vs 11 = (.pointer (some ⟨g2, o2 + k, none⟩)) := hA 11 (by omega)
                                        have k12 : vs 12 = (.float .f32 y1) := hA 12 (by omega)
                                        have k13 : vs 13 = (.float .f32 z1) := hA 13 (by omega)
                                        have k16 : vs 16 = (.pointer (some ⟨p22, 2, none⟩)) := hA 16 (by omega)
                                        have k17 : vs 17 = u2 := hA 17 (by omega)
                                        have k18 : vs 18 = (.func (.func 18) #[] #[.pointer (some ⟨p5, 0, none⟩)]) := hA 18 (by omega)
                                        have k19 : vs 19 = (.pointer (some ⟨pA, 2, none⟩)) := hA 19 (by omega)
                                        have k20 : vs 20 = (.slice (some ⟨g3, o3, none⟩) nv uc) := hA 20 (by omega)
                                        have k21 : vs 21 = (.int .i64 (k : Int)) := hA 21 (by omega)
                                        have k22 : vs 22 = (.pointer (some ⟨g3, o3 + k, none⟩)) := hA 22 (by omega)
                                        have k23 : vs 23 = (.float .f32 x2) := hA 23 (by omega)
                                        have k24 : vs 24 = (.pointer (some ⟨pB, 2, none⟩)) := hA 24 (by omega)
                                        have k25 : vs 25 = (.slice (some ⟨g4, o4, none⟩) nv vc) := hA 25 (by omega)
                                        have k26 : vs 26 = (.int .i64 (k : Int)) := hA 26 (by omega)
                                        have k27 : vs 27 = (.pointer (some ⟨g4, o4 + k, none⟩)) := hA 27 (by omega)
                                        have k28 : vs 28 = (.float .f32 y2) := hA 28 (by omega)
                                        have k29 : vs 29 = (.float .f32 z2) := hA 29 (by omega)
                                        have k32 : vs 32 = (.pointer (some ⟨p22, 1, none⟩)) := hA 32 (by omega)
                                        have k34 : vs 34 = (.pointer (some ⟨p22, 2, none⟩)) := hA 34 (by omega)
                                        simp only [putAll, dstAt, List.getElem?_toArray, List.getElem?_cons_zero, List.getElem?_cons_succ, Option.bind_some, Option.bind_none, Act.put, List.setIfInBounds_toArray, List.set_cons_zero, List.set_cons_succ, k0, k1, k2, k3, k4, k5, k6, k7, k8, k9, k10, k11, k12, k13, k16, k17, k18, k19, k20, k21, k22, k23, k24, k25, k26, k27, k28, k29, k32, k34]
                                        have hT := hI
                                        simp only [hd 1 (by omega), hd 14 (by omega), hd 15 (by omega), hd 33 (by omega), hd 17 (by omega), hd 30 (by omega), hd 31 (by omega), hd 35 (by omega)] at hT
                                        have HTT := Lib.hid (TR2.fin hT 0 0 undef undef undef undef)
                                        generalize vs 14 = ux14 at *
                                        generalize vs 15 = ux15 at *
                                        generalize vs 30 = ux30 at *
                                        generalize vs 31 = ux31 at *
                                        clear hI hA hd k0 k1 k2 k3 k4 k5 k6 k7 k8 k9 k10 k11 k12 k13 k16 k17 k18 k19 k20 k21 k22 k23 k24 k25 k26 k27 k28 k29 k32 k34 hT vs d HTK
                                        have hn32 : nv ≤ 32 := HLL.out.2.2
                                        go_wp2_with fail
                                        go_roundw
                                        case rel => exact ⟨k + 1, ux15, ux31, by omega, by go_num, Lib.hid (by rw [HSN.out.1, HSN.out.2]; exact HTT.out)⟩
                                        case measure => simp [RowKit.intOf]; omega
                                    · obtain rfl : k = nv := by omega
                                      obtain ⟨wl, hwl⟩ : ∃ w, wr = w := ⟨_, rfl⟩
                                      rw [hwl] at HTK ⊢
                                      clear hwl hk hlk
                                      have hxl : lx.take k = lx := by rw [List.take_of_length_le (by have := HLL.out; omega)]
                                      have hyl : ly.take k = ly := by rw [List.take_of_length_le (by have := HLL.out; omega)]
                                      rw [hxl, hyl] at HTK
                                      obtain ⟨D3, x22, s22, t0, t1, t2⟩ := HTK.out.bx
                                      obtain ⟨q1, n1, d1, hf1⟩ := HTK.out.own1.form
                                      obtain ⟨q2, n2, d2, hf2⟩ := HTK.out.own2.form
                                      have hf1' : u1 = .slice q1 n1 d1 := hf1
                                      have hf2' : u2 = .slice q2 n2 d2 := hf2
                                      subst hf1' hf2'
                                      have k0 : wl.cell? ⟨p22, 0, none⟩ = some (.int .i64 cka) := (x22.all.1 0).trans t0
                                      have k1 : wl.cell? ⟨p22, 1, none⟩ = some (.slice q1 n1 d1) := (x22.all.1 1).trans t1
                                      have k2 : wl.cell? ⟨p22, 2, none⟩ = some (.slice q2 n2 d2) := (x22.all.1 2).trans t2
                                      have HCL : Hid (OC W1 (mixG a b t) p14 j wl) := Lib.hid ((OC.keep HC.out HTW.out).keep HTK.out.bel)
                                      obtain ⟨v0, hc0, hf0⟩ := OC.cell HCL.out (show 20 + j * 3 < 49 by omega)
                                      obtain ⟨v1, hc1, hf1⟩ := OC.cell HCL.out (show 20 + j * 3 + 1 < 49 by omega)
                                      obtain ⟨v2, hc2, hf2⟩ := OC.cell HCL.out (show 20 + j * 3 + 2 < 49 by omega)
                                      have HPUT := Lib.hid (OC.put HCL.out hlj HMX.out.1.symm (by rw [HMX.out.2.1]; exact OwF.mono HTK.out.own1 HBz.out.size) (by rw [HMX.out.2.2]; exact OwF.mono HTK.out.own2 HBz.out.size))
                                      clear x22 s22 t0 t1 t2 hxl hyl
                                      have z1 : (j : Int) < 4 := by omega
                                      go_wp2_with fail
                                      go_roundw
                                      case rel => exact ⟨j + 1, by omega, by go_num, HPUT⟩
                                      case measure => simp [RowKit.intOf]; omega
                              · obtain rfl : j = 4 := by omega
                                rw [show ((4 : Nat) : Int) = 4 from rfl]
                                obtain ⟨wm, hwm⟩ : ∃ w, wr = w := ⟨_, rfl⟩
                                rw [hwm] at HC ⊢
                                clear hwm hj hlj
                                obtain ⟨D, hx, hpd, hcr, hbl, hlo⟩ := HC.out
                                have hG : GdAt wm D (mixG a b t) := PD.gd (hpd.weak (fun c hc => hc)) hcr (by show (lerpL t a.whe b.whe).length = 9; unfold lerpL; rw [List.length_zipWith, HP2.out.whe.1, HP2.out.whe.2]; rfl) (by show (lerpL t a.lst b.lst).length = 10; unfold lerpL; rw [List.length_zipWith, HP2.out.lst.1, HP2.out.lst.2]; rfl) (by show (lerpL t a.mix b.mix).length = 12; unfold lerpL; rw [List.length_zipWith, HP2.out.mix.1, HP2.out.mix.2]; rfl) (by show (List.zipWith (mixCv t) a.cvs b.cvs).length = 4; rw [List.length_zipWith, HP2.out.cvs.1, HP2.out.cvs.2]; rfl) (by show (List.zipWith (fun n m => ptMix n m t) a.pts b.pts).length = 3; rw [List.length_zipWith, HP2.out.pts.1, HP2.out.pts.2]; rfl)
                                have HG3 := Lib.hid hG
                                have HX14 := Lib.hid hx
                                have HCR := Lib.hid hcr
                                have HBM := Lib.hid hbl
                                clear hG hx hpd hcr hbl hlo HC
                                have HLD : Hid (∀ (q : Nat) (v : Value), D[q]? = some v → wm.cell? ⟨p14, 0 + q, none⟩ = some v) := Lib.hid (fun q v hq => by rw [HX14.out.all.1, Nat.zero_add]; exact hq)
                                have SD : Hid ((Tryz.prog.info? 37).map (·.size) = some D.size) := Lib.hid (by rw [HG3.out.size]; exact grade_size)
                                go_wp2_with (refine wpList_load_cells rfl 37 (.tmp 14) rfl p14 0 rfl D HLD.out _ Tryz.underlying37 rfl SD.out ?_)
                                refine (ref_GradeError D (mixG a b t) wm HG3.out).mono ?_
                                rintro e w9 ⟨rfl, hb9⟩
                                have HB9 := Lib.hid hb9
                                have HB19 : Hid (Below W1.heap.size W1 w9) := Lib.hid (bcall HBM.out hb9)
                                have HW9 : Hid (Below W.heap.size W w9) := Lib.hid (HW1.out.trans (HB19.out.mono HW1.out.size))
                                obtain ⟨E, hE⟩ : ∃ E, gradeErr (mixG a b t) = E := ⟨_, rfl⟩
                                rw [hE]
                                have HBE : Hid (betErr a b t = E) := Lib.hid (HB5.out.trans hE)
                                clear hb9 hE
                                by_cases e0 : E = 0
                                · subst e0
                                  have HX6 := Lib.hid (X6.out.keep HB19.out)
                                  have HG9 := Lib.hid (HG3.out.keep HB9.out)
                                  have HLD9 : Hid (∀ (q : Nat) (v : Value), D[q]? = some v → w9.cell? ⟨p14, 0 + q, none⟩ = some v) := Lib.hid (fun q v hq => by rw [(HX14.out.keep HB9.out).all.1, Nat.zero_add]; exact hq)
                                  go_wp2_with (first | refine wpList_load_cells rfl 37 (.tmp 14) rfl p14 0 rfl D HLD9.out _ Tryz.underlying37 rfl SD.out ?_ | refine wpList_store_rowG rfl (.tmp 6) (.tmp 314) rfl p6 D rfl rfl HX6.out zeroGr_ok.1 HG9.out.size HG9.out.one ?_)
                                  have XZ : Bx (w9.setRow p6 D) p6 37 D := setRow_heap _ p6 _ D 37 (0, 0) HX6.out
                                  have hCR := HCR.out.keep HB9.out
                                  have hne : ∀ q, q ≠ p6 → (w9.setRow p6 D).heap[q]? = w9.heap[q]? := fun q hq => setRow_other w9 p6 q D hq
                                  have hGF : GdAt (w9.setRow p6 D) D (mixG a b t) := by
                                    have h := HG9.out
                                    refine ⟨h.size, h.one, h.kind, h.whe, h.lst, ⟨h.cvs.1, fun i c hc => ?_⟩, h.mix, h.piv, h.amt, h.pts⟩
                                    have hi : i < 4 := by have := (List.getElem?_eq_some_iff.1 hc).1; rw [h.cvs.1] at this; exact this
                                    have ec : cvAt (mixG a b t) i = c := by unfold cvAt; rw [List.getD_eq_getElem?_getD, hc]; rfl
                                    obtain ⟨vx, x1, x2⟩ := hCR.xs i hi
                                    obtain ⟨vy, y1, y2⟩ := hCR.ys i hi
                                    rw [ec] at x2 y2
                                    have x3 := x2.at (w' := w9.setRow p6 D) fun bq cur _ hb => hne bq (hb.ne HX6.out (by decide))
                                    have y3 := y2.at (w' := w9.setRow p6 D) fun bq cur _ hb => hne bq (hb.ne HX6.out (by decide))
                                    refine ⟨(h.cvs.2 i c hc).1, ⟨vx, ?_, x3.sl⟩, vy, ?_, y3.sl⟩
                                    · rw [← x1]; congr 1; omega
                                    · rw [← y1]; congr 1; omega
                                  refine bodyPost_ret (v := .tuple #[.agg D, .int .i64 0]) (results_two (p := 6) (q := 7) (by kernel_rfl) _ _ p6 D _ rfl rfl XZ HG9.out.size) rfl ⟨D, by rw [HBE.out], HG9.out.size, HG9.out.one, fun _ => hGF, fun h => absurd HBE.out h, below_setRow HW9.out (by have := HP.out; omega) D⟩
                                · have e0' := e0
                                  have HX6 := Lib.hid (X6.out.keep HB19.out)
                                  go_wp2_with (refine wpList_store_rowG rfl (.tmp 6) (.tmp 312) rfl p6 zeroGr rfl rfl HX6.out zeroGr_ok.1 zeroGr_ok.1 zeroGr_ok.2.1 ?_)
                                  have XZ : Bx ((w9 : World).setRow p6 zeroGr) p6 37 zeroGr := setRow_heap _ p6 _ zeroGr 37 (0, 0) HX6.out
                                  refine bodyPost_ret (v := .tuple #[.agg zeroGr, .int .i64 E]) (results_two (p := 6) (q := 7) (by kernel_rfl) _ _ p6 zeroGr _ rfl rfl XZ zeroGr_ok.1) rfl (BetIs.err (HBE.out) (by exact e0') (below_setRow (HW9.out) (by have := HP.out; omega) zeroGr))
                · have HBE : Hid (betErr a b t = 3) := Lib.hid (by unfold betErr; rw [if_neg (by rw [HR.out.1]; decide), if_neg (by rw [HR.out.2]; decide), if_neg (by rw [HCB.out]; decide), if_neg (by rw [HNT.out]; decide), if_pos (by unfold outT; rw [ht1, ht2]; rfl)])
                  have HX6 := Lib.hid (X6.out.keep HB2.out)
                  go_wp2_with (refine wpList_store_rowG rfl (.tmp 6) (.tmp 81) rfl p6 zeroGr rfl rfl HX6.out zeroGr_ok.1 zeroGr_ok.1 zeroGr_ok.2.1 ?_)
                  have XZ : Bx ((w2 : World).setRow p6 zeroGr) p6 37 zeroGr := setRow_heap _ p6 _ zeroGr 37 (0, 0) HX6.out
                  refine bodyPost_ret (v := .tuple #[.agg zeroGr, .int .i64 3]) (results_two (p := 6) (q := 7) (by kernel_rfl) _ _ p6 zeroGr _ rfl rfl XZ zeroGr_ok.1) rfl (BetIs.err (HBE.out) (by decide) (below_setRow (HW1.out.trans (HB2.out.mono HW1.out.size)) (by have := HP.out; omega) zeroGr))
              · have HBE : Hid (betErr a b t = 3) := Lib.hid (by unfold betErr; rw [if_neg (by rw [HR.out.1]; decide), if_neg (by rw [HR.out.2]; decide), if_neg (by rw [HCB.out]; decide), if_neg (by rw [HNT.out]; decide), if_pos (by unfold outT; rw [ht1]; rfl)])
                have HX6 := Lib.hid (X6.out.keep HB2.out)
                go_wp2_with (refine wpList_store_rowG rfl (.tmp 6) (.tmp 81) rfl p6 zeroGr rfl rfl HX6.out zeroGr_ok.1 zeroGr_ok.1 zeroGr_ok.2.1 ?_)
                have XZ : Bx ((w2 : World).setRow p6 zeroGr) p6 37 zeroGr := setRow_heap _ p6 _ zeroGr 37 (0, 0) HX6.out
                refine bodyPost_ret (v := .tuple #[.agg zeroGr, .int .i64 3]) (results_two (p := 6) (q := 7) (by kernel_rfl) _ _ p6 zeroGr _ rfl rfl XZ zeroGr_ok.1) rfl (BetIs.err (HBE.out) (by decide) (below_setRow (HW1.out.trans (HB2.out.mono HW1.out.size)) (by have := HP.out; omega) zeroGr))
          · have HBE : Hid (betErr a b t = 12) := Lib.hid (by unfold betErr; rw [if_neg (by rw [HR.out.1]; decide), if_neg (by rw [HR.out.2]; decide), if_pos HCB.out])
            have HX6 := Lib.hid (X6.out.keep HBj.out)
            go_wp2_with (refine wpList_store_rowG rfl (.tmp 6) (.tmp 70) rfl p6 zeroGr rfl rfl HX6.out zeroGr_ok.1 zeroGr_ok.1 zeroGr_ok.2.1 ?_)
            have XZ : Bx ((wq : World).setRow p6 zeroGr) p6 37 zeroGr := setRow_heap _ p6 _ zeroGr 37 (0, 0) HX6.out
            refine bodyPost_ret (v := .tuple #[.agg zeroGr, .int .i64 12]) (results_two (p := 6) (q := 7) (by kernel_rfl) _ _ p6 zeroGr _ rfl rfl XZ zeroGr_ok.1) rfl (BetIs.err (HBE.out) (by decide) (below_setRow (HW1.out.trans (HBj.out.mono HW1.out.size)) (by have := HP.out; omega) zeroGr))
    · have HBE : Hid (betErr a b t = EF) := Lib.hid (by
        unfold betErr
        rw [HE1.out, HE2.out]
        have h := HEF.out
        by_cases h1 : E1 = 0
        · rw [if_neg (by omega)] at h ⊢
          rw [if_pos (by rw [h]; exact e0)]
          exact h
        · rw [if_pos h1] at h ⊢
          exact h)
      have HX6 := Lib.hid (X6.out.keep HB1.out)
      go_wp2_with (refine wpList_store_rowG rfl (.tmp 6) (.tmp 33) rfl p6 zeroGr rfl rfl HX6.out zeroGr_ok.1 zeroGr_ok.1 zeroGr_ok.2.1 ?_)
      have XZ : Bx ((w6 : World).setRow p6 zeroGr) p6 37 zeroGr := setRow_heap _ p6 _ zeroGr 37 (0, 0) HX6.out
      refine bodyPost_ret (v := .tuple #[.agg zeroGr, .int .i64 EF]) (results_two (p := 6) (q := 7) (by kernel_rfl) _ _ p6 zeroGr _ rfl rfl XZ zeroGr_ok.1) rfl (BetIs.err (HBE.out) (by exact e0) (below_setRow (HW1.out.trans (HB1.out.mono HW1.out.size)) (by have := HP.out; omega) zeroGr))
end Go.Proofs.YtpmbmpfkoffioaaGreatDoor
