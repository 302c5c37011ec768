/- The errors of wheels and of colour decision lists. (printed by gen_gnc.py) -/
import Derived.Test.YticekgnmiaidjaaGreatDoorGnB
namespace Go.Proofs.YticekgnmiaidjaaGreatDoor
open Go.RowKit Go.Lib

/-- Slices gathered and joined to one. -/
structure WN (W0 : World) (xs : List Nat) (m : Nat) (d10 d11 : Bool) (v10 v11 : Value) (w : World) : Prop where
  bel : Below W0.heap.size W0 w
  b : d10 = true → ∃ (g : Nat) (rows : List SlF), v10 = .slice (some ⟨g, 0, none⟩) m m ∧ rows.length = m ∧ flatS rows = xs ∧ Bx w g 37 (rows.map SlF.v).toArray ∧ ∀ (k : Nat) (r : SlF), rows[k]? = some r → r.g < w.heap.size ∧ ∀ (j : Nat) (u : Value), (r.xs.map (Value.float .f32))[j]? = some u → w.cell? ((⟨r.g, r.o, none⟩ : Addr).add j) = some u
  c : d11 = true → OwF W0.heap.size w v11 xs
section
variable {W0 : World} {m : Nat} {xs : List Nat} {d10 d11 : Bool} {v10 v11 : Value} {w w' : World}
theorem WN.keep (h : WN W0 xs m d10 d11 v10 v11 w) (hb : Below w.heap.size w w') : WN W0 xs m d10 d11 v10 v11 w' := by
  refine ⟨h.bel.trans (hb.mono h.bel.size), fun e => ?_, fun e => (h.c e).keep hb⟩
  obtain ⟨g, rows, e1, e2, e3, e4, e5⟩ := h.b e
  refine ⟨g, rows, e1, e2, e3, e4.keep hb, fun k r hr => ⟨Nat.lt_of_lt_of_le (e5 k r hr).1 hb.size, fun j u hj => ?_⟩⟩
  rw [hb.cell (p := (⟨r.g, r.o, none⟩ : Addr).add j) (by unfold Addr.add; split <;> exact (e5 k r hr).1)]
  exact (e5 k r hr).2 j u hj
theorem WN.set10 (h : WN W0 xs m d10 d11 v10 v11 w) (rows : List SlF) (hm : rows.length = m) (hx : flatS rows = xs) (cs : Array Value) (hcs : cs = (rows.map SlF.v).toArray)
    (hr : ∀ (k : Nat) (r : SlF), rows[k]? = some r → r.g < w.heap.size ∧ ∀ (j : Nat) (u : Value), (r.xs.map (Value.float .f32))[j]? = some u → w.cell? ((⟨r.g, r.o, none⟩ : Addr).add j) = some u) :
    WN W0 xs m true d11 (.slice (some ⟨w.heap.size, 0, none⟩) m m) v11 (w.alloc (.cells cs 37)) := by
  subst hcs
  have hb := bnew (Below.refl _ w) (ob := .cells (rows.map SlF.v).toArray 37)
  have k := h.keep hb
  refine ⟨k.bel, fun _ => ⟨w.heap.size, rows, rfl, hm, hx, Bx.new _ _ _, fun q r hq => ⟨Nat.lt_of_lt_of_le (hr q r hq).1 hb.size, fun j u hj => ?_⟩⟩, k.c⟩
  rw [hb.cell (p := (⟨r.g, r.o, none⟩ : Addr).add j) (by unfold Addr.add; split <;> exact (hr q r hq).1)]
  exact (hr q r hq).2 j u hj
theorem WN.set11 (h : WN W0 xs m d10 d11 v10 v11 w) {u : Value} (ho : OwF w.heap.size w' u xs) (hb : Below w.heap.size w w') : WN W0 xs m d10 true v10 u w' :=
  have k := h.keep hb
  ⟨k.bel, k.b, fun _ => ho.mono h.bel.size⟩
end
theorem flat9 {xs : List Nat} (h : xs.length = 9) (p : Nat) : flatS [⟨p, 0, 3, [xs.getD 0 0, xs.getD 1 0, xs.getD 2 0]⟩, ⟨p, 3, 3, [xs.getD 3 0, xs.getD 4 0, xs.getD 5 0]⟩, ⟨p, 6, 3, [xs.getD 6 0, xs.getD 7 0, xs.getD 8 0]⟩] = xs := by
  match xs, h with
  | [a, b, c, d, e, f, g, h, i], _ => rfl
theorem flat10 {xs : List Nat} (h : xs.length = 10) (p q : Nat) : flatS [⟨p, 0, 3, [xs.getD 0 0, xs.getD 1 0, xs.getD 2 0]⟩, ⟨p, 3, 3, [xs.getD 3 0, xs.getD 4 0, xs.getD 5 0]⟩, ⟨p, 6, 3, [xs.getD 6 0, xs.getD 7 0, xs.getD 8 0]⟩, ⟨q, 0, 1, [xs.getD 9 0]⟩] = xs := by
  match xs, h with
  | [a, b, c, d, e, f, g, h, i, j], _ => rfl
/-- What the reference looks at in each round. -/
def lsB3 (xs : List Nat) (i : Nat) : Bool := neg0 (xs.getD i 0) || badP (xs.getD (6 + i) 0)
theorem lsBad_eq (xs : List Nat) : lsBad xs = ((List.range 3).any (lsB3 xs) || (neg0 (xs.getD 9 0) || (FloatKind.f32.format.order (xs.getD 9 0) 1090519040 == some .gt))) := by
  have e : (List.range 3).any (lsB3 xs) = (lsB3 xs 0 || (lsB3 xs 1 || (lsB3 xs 2 || false))) := rfl
  rw [e]
  unfold lsBad lsB3
  simp only [Nat.reduceAdd]
  generalize neg0 (xs.getD 0 0) = a
  generalize neg0 (xs.getD 1 0) = b
  generalize neg0 (xs.getD 2 0) = c
  generalize badP (xs.getD 6 0) = d
  generalize badP (xs.getD 7 0) = e
  generalize badP (xs.getD 8 0) = f
  generalize neg0 (xs.getD 9 0) = g
  generalize (FloatKind.f32.format.order (xs.getD 9 0) 1090519040 == some .gt) = h
  revert a b c d e f g h
  decide
def Kq (a b : World) : Prop := Below a.heap.size a b
set_option maxRecDepth 100000 in
set_option maxHeartbeats 8000000 in
theorem grade_CheckWheels (D : Array Value) (xs : List Nat) (hl : xs.length = 9) (hs : D.size = 9) (hD : ∀ k, k < 9 → D[k]? = some (.float .f32 (xs.getD k 0))) (W : World) : Calls Tryz.prog 80 #[.agg D] W fun e w' => e = .returned (.int .i64 (whErr xs)) ∧ Below W.heap.size W w' := by
  have HD := Lib.hid (And.intro hl (And.intro hs hD))
  clear hl hs hD
  obtain ⟨R, hR⟩ : ∃ R : Int, whErr xs = R := ⟨_, rfl⟩
  have HRR := Lib.hid hR
  rw [hR]
  clear hR
  cases hz : xs.all isNum
  · have HR := Lib.hid hz
    clear hz
    go_enter Tryz.func80, Tryz.ntmps80
    go_upto_region 1 with fail
    refine name_world ?_
    intro W1 hW1
    have X1 : Hid (Bx W1 W.heap.size 34 D) := Lib.hid (by rw [hW1]; exact Bx.new W _ D)
    have HW : Hid (Below W.heap.size W W1) := Lib.hid (by rw [hW1]; exact bnew (ob := .cells D 34) (Below.refl _ _))
    obtain ⟨p1, hp1⟩ : ∃ p, W.heap.size = p := ⟨_, rfl⟩
    rw [hp1] at X1 ⊢
    have HP1 := Lib.hid hp1
    clear hW1 hp1
    have BXK : ∀ w, Below W1.heap.size W1 w → Bx w p1 34 D := fun w h => X1.out.keep h
    refine wp_region_inv 10 (fun qz u' => if qz = 6 then True else if qz = 7 then True else u' = [(.pointer (some ⟨p1, 0, none⟩)), (.slice (some ⟨p1, 0, none⟩) 3 3), (.pointer (some ⟨p1, 3, none⟩)), (.slice (some ⟨p1, 3, none⟩) 3 3), (.pointer (some ⟨p1, 6, none⟩)), (.slice (some ⟨p1, 6, none⟩) 3 3), undef, undef, (.bool false), (.bool true)].getD qz undef) (fun d vs w' => WN W1 xs 3 (d 6) (d 7) (vs 6) (vs 7) w') (by kernel_rfl) (by kernel_rfl) ?_ ?_ ?_
    · intro vs
      exact WN.keep (w := W1) ⟨Below.refl _ _, fun e => (by cases e), fun e => (by cases e)⟩ ((Below.refl _ _).drew)
    · intro iq oq hi ho
      rcases (by omega : iq = 0 ∨ iq = 1 ∨ iq = 2 ∨ iq = 3 ∨ iq = 4 ∨ iq = 5 ∨ iq = 6 ∨ iq = 7 ∨ iq = 8 ∨ iq = 9) with rfl | rfl | rfl | rfl | rfl | rfl | rfl | rfl | rfl | rfl
      all_goals simp only [List.getElem?_cons_zero, List.getElem?_cons_succ, Option.some.injEq] at ho
      all_goals subst ho
      all_goals intro d a0 wx hI hag hdep hun
      · have e0 := slot_eq (hag 1 rfl)
        exact inv_val (v := (.pointer (some ⟨p1, 0, none⟩))) (by simp [go_sem, e0]) (fun h => (by cases h)) rfl hI
      · have e0 := slot_eq (hdep ⟨0, .data⟩ (by simp) rfl).1
        exact inv_val (v := (.slice (some ⟨p1, 0, none⟩) 3 3)) (by simp [go_sem, e0]) (fun h => (by cases h)) rfl hI
      · have e0 := slot_eq (hag 1 rfl)
        exact inv_val (v := (.pointer (some ⟨p1, 3, none⟩))) (by simp [go_sem, e0]) (fun h => (by cases h)) rfl hI
      · have e0 := slot_eq (hdep ⟨2, .data⟩ (by simp) rfl).1
        exact inv_val (v := (.slice (some ⟨p1, 3, none⟩) 3 3)) (by simp [go_sem, e0]) (fun h => (by cases h)) rfl hI
      · have e0 := slot_eq (hag 1 rfl)
        exact inv_val (v := (.pointer (some ⟨p1, 6, none⟩))) (by simp [go_sem, e0]) (fun h => (by cases h)) rfl hI
      · have e0 := slot_eq (hdep ⟨4, .data⟩ (by simp) rfl).1
        exact inv_val (v := (.slice (some ⟨p1, 6, none⟩) 3 3)) (by simp [go_sem, e0]) (fun h => (by cases h)) rfl hI
      · have e0 := slot_eq (hdep ⟨1, .data⟩ (by simp) rfl).1
        have e1 := slot_eq (hdep ⟨3, .data⟩ (by simp) rfl).1
        have e2 := slot_eq (hdep ⟨5, .data⟩ (by simp) rfl).1
        have hb2 : Below wx.heap.size wx (wx.alloc (.cells #[(.slice (some ⟨p1, 0, none⟩) 3 3), (.slice (some ⟨p1, 3, none⟩) 3 3), (.slice (some ⟨p1, 6, none⟩) 3 3)] 37)) := bnew (Below.refl _ _)
        have hbx := BXK wx hI.bel
        have hrd : ∀ (q : Nat) (r : SlF), [⟨p1, 0, 3, [xs.getD 0 0, xs.getD 1 0, xs.getD 2 0]⟩, ⟨p1, 3, 3, [xs.getD 3 0, xs.getD 4 0, xs.getD 5 0]⟩, ⟨p1, 6, 3, [xs.getD 6 0, xs.getD 7 0, xs.getD 8 0]⟩][q]? = some r → r.g < wx.heap.size ∧ ∀ (j : Nat) (u : Value), (r.xs.map (Value.float .f32))[j]? = some u → wx.cell? ((⟨r.g, r.o, none⟩ : Addr).add j) = some u := by
          intro q r hr
          rcases (show q = 0 ∨ q = 1 ∨ q = 2 from by have := (List.getElem?_eq_some_iff.1 hr).1; simp only [List.length_cons, List.length_nil] at this; omega) with rfl | rfl | rfl
          all_goals obtain rfl := Option.some.inj hr
          · exact rows_of hbx _ rfl (fun j hj => (match j, hj with | 0, _ => HD.out.2.2 0 (by omega) | 1, _ => HD.out.2.2 1 (by omega) | 2, _ => HD.out.2.2 2 (by omega)))
          · exact rows_of hbx _ rfl (fun j hj => (match j, hj with | 0, _ => HD.out.2.2 3 (by omega) | 1, _ => HD.out.2.2 4 (by omega) | 2, _ => HD.out.2.2 5 (by omega)))
          · exact rows_of hbx _ rfl (fun j hj => (match j, hj with | 0, _ => HD.out.2.2 6 (by omega) | 1, _ => HD.out.2.2 7 (by omega) | 2, _ => HD.out.2.2 8 (by omega)))
        exact inv_val (v := .slice (some ⟨wx.heap.size, 0, none⟩) 3 3) (w' := wx.alloc (.cells #[(.slice (some ⟨p1, 0, none⟩) 3 3), (.slice (some ⟨p1, 3, none⟩) 3 3), (.slice (some ⟨p1, 6, none⟩) 3 3)] 37)) (by simp [go_sem, e0, e1, e2]) (fun h => (by cases h)) trivial (WN.set10 hI [⟨p1, 0, 3, [xs.getD 0 0, xs.getD 1 0, xs.getD 2 0]⟩, ⟨p1, 3, 3, [xs.getD 3 0, xs.getD 4 0, xs.getD 5 0]⟩, ⟨p1, 6, 3, [xs.getD 6 0, xs.getD 7 0, xs.getD 8 0]⟩] rfl (flat9 HD.out.1 p1) _ rfl hrd)
      · obtain ⟨gr, rows, hv1, hm, hfl, hbx, hrd⟩ := hI.b (hdep ⟨6, .data⟩ (by simp) rfl).2
        have e0 := slot_eq hv1
        refine inv_call (f := 77) (args := #[.slice (some ⟨gr, 0, none⟩) 3 3]) (run_go_call Tryz.func77 (by kernel_rfl) (by kernel_rfl) _ _ _ _ _ _ _ _ _ _ (by simp [Act.eval, e0])) (fun h => (by cases h)) ?_
        refine (slices_ConcatF rows 3 wx hbx hm (by omega) hrd (by rw [hfl]; have := HD.out.1; omega) (by rw [hfl]; have := HD.out.1; omega)).mono ?_
        rintro e w' ⟨u', rfl, ho2, hb2⟩
        rw [hfl] at ho2
        exact ⟨u', rfl, trivial, WN.set11 hI ho2 hb2⟩
      · have hc := hI.c (hdep ⟨7, .data⟩ (by simp) rfl).2
        obtain ⟨a1, n1, c1, hv1⟩ := hc.form
        rw [hv1] at hc
        have e1 := slot_eq hv1
        refine inv_call (f := 84) (args := #[.slice a1 n1 c1]) (run_go_call Tryz.func84 (by kernel_rfl) (by kernel_rfl) _ _ _ _ _ _ _ _ _ _ (by simp [Act.eval, e1])) (fun h => (by cases h)) ?_
        refine (num_AllOwn xs _ _ wx hc (by have := HD.out.1; omega)).mono ?_
        rintro e w' ⟨rfl, hb2⟩
        rw [HR.out]
        exact ⟨_, rfl, rfl, WN.keep hI hb2⟩
      · have e0 := slot_eq (hdep ⟨8, .data⟩ (by simp) rfl).1
        exact inv_val (v := (.bool true)) (by simp [go_sem, e0]) (fun h => (by cases h)) rfl hI
    · intro d vs w6 hd hI hA
      have k0 : vs 0 = (.pointer (some ⟨p1, 0, none⟩)) := hA 0 (by omega)
      have k1 : vs 1 = (.slice (some ⟨p1, 0, none⟩) 3 3) := hA 1 (by omega)
      have k2 : vs 2 = (.pointer (some ⟨p1, 3, none⟩)) := hA 2 (by omega)
      have k3 : vs 3 = (.slice (some ⟨p1, 3, none⟩) 3 3) := hA 3 (by omega)
      have k4 : vs 4 = (.pointer (some ⟨p1, 6, none⟩)) := hA 4 (by omega)
      have k5 : vs 5 = (.slice (some ⟨p1, 6, none⟩) 3 3) := hA 5 (by omega)
      have k8 : vs 8 = (.bool false) := hA 8 (by omega)
      have k9 : vs 9 = (.bool true) := hA 9 (by omega)
      simp only [putAll, dstAt, List.getElem?_toArray, List.getElem?_cons_zero, List.getElem?_cons_succ, Option.bind_some, Option.bind_none, Act.put, List.setIfInBounds_toArray, List.set_cons_zero, List.set_cons_succ, k0, k1, k2, k3, k4, k5, k8, k9]
      have HB : Hid (Below W1.heap.size W1 w6) := Lib.hid hI.bel
      generalize vs 6 = ub at *
      generalize vs 7 = uc at *
      clear hI hA hd k0 k1 k2 k3 k4 k5 k8 k9
      have BXK := Lib.hid BXK
      rw [← HP1.out]
      go_wp2_with fail
      go_ret
      exact ⟨ret_int' (by rw [← HRR.out]; unfold whErr; rw [HR.out]; rfl), HW.out.trans (HB.out.mono (HW.out.size))⟩
  · have HR := Lib.hid hz
    clear hz
    go_enter Tryz.func80, Tryz.ntmps80
    go_upto_region 1 with fail
    refine name_world ?_
    intro W1 hW1
    have X1 : Hid (Bx W1 W.heap.size 34 D) := Lib.hid (by rw [hW1]; exact Bx.new W _ D)
    have HW : Hid (Below W.heap.size W W1) := Lib.hid (by rw [hW1]; exact bnew (ob := .cells D 34) (Below.refl _ _))
    obtain ⟨p1, hp1⟩ : ∃ p, W.heap.size = p := ⟨_, rfl⟩
    rw [hp1] at X1 ⊢
    have HP1 := Lib.hid hp1
    clear hW1 hp1
    have BXK : ∀ w, Below W1.heap.size W1 w → Bx w p1 34 D := fun w h => X1.out.keep h
    refine wp_region_inv 10 (fun qz u' => if qz = 6 then True else if qz = 7 then True else u' = [(.pointer (some ⟨p1, 0, none⟩)), (.slice (some ⟨p1, 0, none⟩) 3 3), (.pointer (some ⟨p1, 3, none⟩)), (.slice (some ⟨p1, 3, none⟩) 3 3), (.pointer (some ⟨p1, 6, none⟩)), (.slice (some ⟨p1, 6, none⟩) 3 3), undef, undef, (.bool true), (.bool false)].getD qz undef) (fun d vs w' => WN W1 xs 3 (d 6) (d 7) (vs 6) (vs 7) w') (by kernel_rfl) (by kernel_rfl) ?_ ?_ ?_
    · intro vs
      exact WN.keep (w := W1) ⟨Below.refl _ _, fun e => (by cases e), fun e => (by cases e)⟩ ((Below.refl _ _).drew)
    · intro iq oq hi ho
      rcases (by omega : iq = 0 ∨ iq = 1 ∨ iq = 2 ∨ iq = 3 ∨ iq = 4 ∨ iq = 5 ∨ iq = 6 ∨ iq = 7 ∨ iq = 8 ∨ iq = 9) with rfl | rfl | rfl | rfl | rfl | rfl | rfl | rfl | rfl | rfl
      all_goals simp only [List.getElem?_cons_zero, List.getElem?_cons_succ, Option.some.injEq] at ho
      all_goals subst ho
      all_goals intro d a0 wx hI hag hdep hun
      · have e0 := slot_eq (hag 1 rfl)
        exact inv_val (v := (.pointer (some ⟨p1, 0, none⟩))) (by simp [go_sem, e0]) (fun h => (by cases h)) rfl hI
      · have e0 := slot_eq (hdep ⟨0, .data⟩ (by simp) rfl).1
        exact inv_val (v := (.slice (some ⟨p1, 0, none⟩) 3 3)) (by simp [go_sem, e0]) (fun h => (by cases h)) rfl hI
      · have e0 := slot_eq (hag 1 rfl)
        exact inv_val (v := (.pointer (some ⟨p1, 3, none⟩))) (by simp [go_sem, e0]) (fun h => (by cases h)) rfl hI
      · have e0 := slot_eq (hdep ⟨2, .data⟩ (by simp) rfl).1
        exact inv_val (v := (.slice (some ⟨p1, 3, none⟩) 3 3)) (by simp [go_sem, e0]) (fun h => (by cases h)) rfl hI
      · have e0 := slot_eq (hag 1 rfl)
        exact inv_val (v := (.pointer (some ⟨p1, 6, none⟩))) (by simp [go_sem, e0]) (fun h => (by cases h)) rfl hI
      · have e0 := slot_eq (hdep ⟨4, .data⟩ (by simp) rfl).1
        exact inv_val (v := (.slice (some ⟨p1, 6, none⟩) 3 3)) (by simp [go_sem, e0]) (fun h => (by cases h)) rfl hI
      · have e0 := slot_eq (hdep ⟨1, .data⟩ (by simp) rfl).1
        have e1 := slot_eq (hdep ⟨3, .data⟩ (by simp) rfl).1
        have e2 := slot_eq (hdep ⟨5, .data⟩ (by simp) rfl).1
        have hb2 : Below wx.heap.size wx (wx.alloc (.cells #[(.slice (some ⟨p1, 0, none⟩) 3 3), (.slice (some ⟨p1, 3, none⟩) 3 3), (.slice (some ⟨p1, 6, none⟩) 3 3)] 37)) := bnew (Below.refl _ _)
        have hbx := BXK wx hI.bel
        have hrd : ∀ (q : Nat) (r : SlF), [⟨p1, 0, 3, [xs.getD 0 0, xs.getD 1 0, xs.getD 2 0]⟩, ⟨p1, 3, 3, [xs.getD 3 0, xs.getD 4 0, xs.getD 5 0]⟩, ⟨p1, 6, 3, [xs.getD 6 0, xs.getD 7 0, xs.getD 8 0]⟩][q]? = some r → r.g < wx.heap.size ∧ ∀ (j : Nat) (u : Value), (r.xs.map (Value.float .f32))[j]? = some u → wx.cell? ((⟨r.g, r.o, none⟩ : Addr).add j) = some u := by
          intro q r hr
          rcases (show q = 0 ∨ q = 1 ∨ q = 2 from by have := (List.getElem?_eq_some_iff.1 hr).1; simp only [List.length_cons, List.length_nil] at this; omega) with rfl | rfl | rfl
          all_goals obtain rfl := Option.some.inj hr
          · exact rows_of hbx _ rfl (fun j hj => (match j, hj with | 0, _ => HD.out.2.2 0 (by omega) | 1, _ => HD.out.2.2 1 (by omega) | 2, _ => HD.out.2.2 2 (by omega)))
          · exact rows_of hbx _ rfl (fun j hj => (match j, hj with | 0, _ => HD.out.2.2 3 (by omega) | 1, _ => HD.out.2.2 4 (by omega) | 2, _ => HD.out.2.2 5 (by omega)))
          · exact rows_of hbx _ rfl (fun j hj => (match j, hj with | 0, _ => HD.out.2.2 6 (by omega) | 1, _ => HD.out.2.2 7 (by omega) | 2, _ => HD.out.2.2 8 (by omega)))
        exact inv_val (v := .slice (some ⟨wx.heap.size, 0, none⟩) 3 3) (w' := wx.alloc (.cells #[(.slice (some ⟨p1, 0, none⟩) 3 3), (.slice (some ⟨p1, 3, none⟩) 3 3), (.slice (some ⟨p1, 6, none⟩) 3 3)] 37)) (by simp [go_sem, e0, e1, e2]) (fun h => (by cases h)) trivial (WN.set10 hI [⟨p1, 0, 3, [xs.getD 0 0, xs.getD 1 0, xs.getD 2 0]⟩, ⟨p1, 3, 3, [xs.getD 3 0, xs.getD 4 0, xs.getD 5 0]⟩, ⟨p1, 6, 3, [xs.getD 6 0, xs.getD 7 0, xs.getD 8 0]⟩] rfl (flat9 HD.out.1 p1) _ rfl hrd)
      · obtain ⟨gr, rows, hv1, hm, hfl, hbx, hrd⟩ := hI.b (hdep ⟨6, .data⟩ (by simp) rfl).2
        have e0 := slot_eq hv1
        refine inv_call (f := 77) (args := #[.slice (some ⟨gr, 0, none⟩) 3 3]) (run_go_call Tryz.func77 (by kernel_rfl) (by kernel_rfl) _ _ _ _ _ _ _ _ _ _ (by simp [Act.eval, e0])) (fun h => (by cases h)) ?_
        refine (slices_ConcatF rows 3 wx hbx hm (by omega) hrd (by rw [hfl]; have := HD.out.1; omega) (by rw [hfl]; have := HD.out.1; omega)).mono ?_
        rintro e w' ⟨u', rfl, ho2, hb2⟩
        rw [hfl] at ho2
        exact ⟨u', rfl, trivial, WN.set11 hI ho2 hb2⟩
      · have hc := hI.c (hdep ⟨7, .data⟩ (by simp) rfl).2
        obtain ⟨a1, n1, c1, hv1⟩ := hc.form
        rw [hv1] at hc
        have e1 := slot_eq hv1
        refine inv_call (f := 84) (args := #[.slice a1 n1 c1]) (run_go_call Tryz.func84 (by kernel_rfl) (by kernel_rfl) _ _ _ _ _ _ _ _ _ _ (by simp [Act.eval, e1])) (fun h => (by cases h)) ?_
        refine (num_AllOwn xs _ _ wx hc (by have := HD.out.1; omega)).mono ?_
        rintro e w' ⟨rfl, hb2⟩
        rw [HR.out]
        exact ⟨_, rfl, rfl, WN.keep hI hb2⟩
      · have e0 := slot_eq (hdep ⟨8, .data⟩ (by simp) rfl).1
        exact inv_val (v := (.bool false)) (by simp [go_sem, e0]) (fun h => (by cases h)) rfl hI
    · intro d vs w6 hd hI hA
      have k0 : vs 0 = (.pointer (some ⟨p1, 0, none⟩)) := hA 0 (by omega)
      have k1 : vs 1 = (.slice (some ⟨p1, 0, none⟩) 3 3) := hA 1 (by omega)
      have k2 : vs 2 = (.pointer (some ⟨p1, 3, none⟩)) := hA 2 (by omega)
      have k3 : vs 3 = (.slice (some ⟨p1, 3, none⟩) 3 3) := hA 3 (by omega)
      have k4 : vs 4 = (.pointer (some ⟨p1, 6, none⟩)) := hA 4 (by omega)
      have k5 : vs 5 = (.slice (some ⟨p1, 6, none⟩) 3 3) := hA 5 (by omega)
      have k8 : vs 8 = (.bool true) := hA 8 (by omega)
      have k9 : vs 9 = (.bool false) := hA 9 (by omega)
      simp only [putAll, dstAt, List.getElem?_toArray, List.getElem?_cons_zero, List.getElem?_cons_succ, Option.bind_some, Option.bind_none, Act.put, List.setIfInBounds_toArray, List.set_cons_zero, List.set_cons_succ, k0, k1, k2, k3, k4, k5, k8, k9]
      have HB : Hid (Below W1.heap.size W1 w6) := Lib.hid hI.bel
      generalize vs 6 = ub at *
      generalize vs 7 = uc at *
      clear hI hA hd k0 k1 k2 k3 k4 k5 k8 k9
      have BXK := Lib.hid BXK
      rw [← HP1.out]
      obtain ⟨hE1, hE2⟩ := part_cells (BXK.out w6 HB.out) 3 3 (by rw [HD.out.2.1]; omega)
      obtain ⟨D3, hD3⟩ : ∃ D3, D.extract 3 (3 + 3) = D3 := ⟨_, rfl⟩
      have hD4 : ∀ k, k < 3 → D3[k]? = some (.float .f32 ([xs.getD 3 0, xs.getD 4 0, xs.getD 5 0].getD k 0)) := fun k hk => by
        rw [← hD3, Array.getElem?_extract, if_pos (by rw [HD.out.2.1]; omega), HD.out.2.2 (3 + k) (by omega)]
        rcases (by omega : k = 0 ∨ k = 1 ∨ k = 2) with rfl | rfl | rfl <;> rfl
      rw [hD3] at hE1 hE2
      have HE := Lib.hid (And.intro hE1 (And.intro hE2 hD4))
      clear hE1 hE2 hD4 hD3
      have hE2 := HP1.out
      subst hE2
      go_wp2_with (refine wpList_load_cells rfl 32 (.tmp 13) rfl _ 3 rfl D3 HE.out.2.1 _ Tryz.underlying32 rfl (by rw [HE.out.1]; exact size_f3) ?_)
      refine (grade_powered D3 _ rfl HE.out.1 HE.out.2.2 w6).mono ?_
      rintro e w7 ⟨rfl, hb7⟩
      have HB7 : Hid (Below W.heap.size W w7) := Lib.hid (bcall (HW.out.trans (HB.out.mono HW.out.size)) hb7)
      clear hb7
      obtain ⟨r, hr⟩ : ∃ r, [xs.getD 3 0, xs.getD 4 0, xs.getD 5 0].any badP = r := ⟨_, rfl⟩
      rw [hr]
      have HQ := Lib.hid hr
      clear hr
      cases r
      · simp only [Bool.not_false]
        go_wp2_with fail
        go_ret
        exact ⟨ret_int' (by rw [← HRR.out]; have := HQ.out; simp only [List.any_cons, List.any_nil, Bool.or_false] at this; unfold whErr; rw [HR.out, this]; rfl), HB7.out⟩
      · simp only [Bool.not_true]
        go_wp2_with fail
        go_ret
        exact ⟨ret_int' (by rw [← HRR.out]; have := HQ.out; simp only [List.any_cons, List.any_nil, Bool.or_false] at this; unfold whErr; rw [HR.out, this]; rfl), HB7.out⟩
set_option maxRecDepth 100000 in
set_option maxHeartbeats 8000000 in
theorem ref_WheelsError (D : Array Value) (xs : List Nat) (hl : xs.length = 9) (hs : D.size = 9) (hD : ∀ k, k < 9 → D[k]? = some (.float .f32 (xs.getD k 0))) (W : World) : Calls Tryz.prog 69 #[.agg D] W fun e w' => e = .returned (.int .i64 (whErr xs)) ∧ Below W.heap.size W w' := by
  have HD := Lib.hid (And.intro hl (And.intro hs hD))
  clear hl hs hD
  obtain ⟨R, hR⟩ : ∃ R : Int, whErr xs = R := ⟨_, rfl⟩
  have HRR := Lib.hid hR
  rw [hR]
  clear hR
  cases hz : xs.all isNum
  · have HR := Lib.hid hz
    clear hz
    go_enter Tryz.func69, Tryz.ntmps69
    go_upto_region 1 with fail
    refine name_world ?_
    intro W1 hW1
    have X1 : Hid (Bx W1 W.heap.size 34 D) := Lib.hid (by rw [hW1]; exact Bx.new W _ D)
    have HW : Hid (Below W.heap.size W W1) := Lib.hid (by rw [hW1]; exact bnew (ob := .cells D 34) (Below.refl _ _))
    obtain ⟨p1, hp1⟩ : ∃ p, W.heap.size = p := ⟨_, rfl⟩
    rw [hp1] at X1 ⊢
    have HP1 := Lib.hid hp1
    clear hW1 hp1
    have BXK : ∀ w, Below W1.heap.size W1 w → Bx w p1 34 D := fun w h => X1.out.keep h
    refine wp_region_inv 10 (fun qz u' => if qz = 6 then True else if qz = 7 then True else u' = [(.pointer (some ⟨p1, 0, none⟩)), (.slice (some ⟨p1, 0, none⟩) 3 3), (.pointer (some ⟨p1, 3, none⟩)), (.slice (some ⟨p1, 3, none⟩) 3 3), (.pointer (some ⟨p1, 6, none⟩)), (.slice (some ⟨p1, 6, none⟩) 3 3), undef, undef, (.bool false), (.bool true)].getD qz undef) (fun d vs w' => WN W1 xs 3 (d 6) (d 7) (vs 6) (vs 7) w') (by kernel_rfl) (by kernel_rfl) ?_ ?_ ?_
    · intro vs
      exact WN.keep (w := W1) ⟨Below.refl _ _, fun e => (by cases e), fun e => (by cases e)⟩ ((Below.refl _ _).drew)
    · intro iq oq hi ho
      rcases (by omega : iq = 0 ∨ iq = 1 ∨ iq = 2 ∨ iq = 3 ∨ iq = 4 ∨ iq = 5 ∨ iq = 6 ∨ iq = 7 ∨ iq = 8 ∨ iq = 9) with rfl | rfl | rfl | rfl | rfl | rfl | rfl | rfl | rfl | rfl
      all_goals simp only [List.getElem?_cons_zero, List.getElem?_cons_succ, Option.some.injEq] at ho
      all_goals subst ho
      all_goals intro d a0 wx hI hag hdep hun
      · have e0 := slot_eq (hag 1 rfl)
        exact inv_val (v := (.pointer (some ⟨p1, 0, none⟩))) (by simp [go_sem, e0]) (fun h => (by cases h)) rfl hI
      · have e0 := slot_eq (hdep ⟨0, .data⟩ (by simp) rfl).1
        exact inv_val (v := (.slice (some ⟨p1, 0, none⟩) 3 3)) (by simp [go_sem, e0]) (fun h => (by cases h)) rfl hI
      · have e0 := slot_eq (hag 1 rfl)
        exact inv_val (v := (.pointer (some ⟨p1, 3, none⟩))) (by simp [go_sem, e0]) (fun h => (by cases h)) rfl hI
      · have e0 := slot_eq (hdep ⟨2, .data⟩ (by simp) rfl).1
        exact inv_val (v := (.slice (some ⟨p1, 3, none⟩) 3 3)) (by simp [go_sem, e0]) (fun h => (by cases h)) rfl hI
      · have e0 := slot_eq (hag 1 rfl)
        exact inv_val (v := (.pointer (some ⟨p1, 6, none⟩))) (by simp [go_sem, e0]) (fun h => (by cases h)) rfl hI
      · have e0 := slot_eq (hdep ⟨4, .data⟩ (by simp) rfl).1
        exact inv_val (v := (.slice (some ⟨p1, 6, none⟩) 3 3)) (by simp [go_sem, e0]) (fun h => (by cases h)) rfl hI
      · have e0 := slot_eq (hdep ⟨1, .data⟩ (by simp) rfl).1
        have e1 := slot_eq (hdep ⟨3, .data⟩ (by simp) rfl).1
        have e2 := slot_eq (hdep ⟨5, .data⟩ (by simp) rfl).1
        have hb2 : Below wx.heap.size wx (wx.alloc (.cells #[(.slice (some ⟨p1, 0, none⟩) 3 3), (.slice (some ⟨p1, 3, none⟩) 3 3), (.slice (some ⟨p1, 6, none⟩) 3 3)] 37)) := bnew (Below.refl _ _)
        have hbx := BXK wx hI.bel
        have hrd : ∀ (q : Nat) (r : SlF), [⟨p1, 0, 3, [xs.getD 0 0, xs.getD 1 0, xs.getD 2 0]⟩, ⟨p1, 3, 3, [xs.getD 3 0, xs.getD 4 0, xs.getD 5 0]⟩, ⟨p1, 6, 3, [xs.getD 6 0, xs.getD 7 0, xs.getD 8 0]⟩][q]? = some r → r.g < wx.heap.size ∧ ∀ (j : Nat) (u : Value), (r.xs.map (Value.float .f32))[j]? = some u → wx.cell? ((⟨r.g, r.o, none⟩ : Addr).add j) = some u := by
          intro q r hr
          rcases (show q = 0 ∨ q = 1 ∨ q = 2 from by have := (List.getElem?_eq_some_iff.1 hr).1; simp only [List.length_cons, List.length_nil] at this; omega) with rfl | rfl | rfl
          all_goals obtain rfl := Option.some.inj hr
          · exact rows_of hbx _ rfl (fun j hj => (match j, hj with | 0, _ => HD.out.2.2 0 (by omega) | 1, _ => HD.out.2.2 1 (by omega) | 2, _ => HD.out.2.2 2 (by omega)))
          · exact rows_of hbx _ rfl (fun j hj => (match j, hj with | 0, _ => HD.out.2.2 3 (by omega) | 1, _ => HD.out.2.2 4 (by omega) | 2, _ => HD.out.2.2 5 (by omega)))
          · exact rows_of hbx _ rfl (fun j hj => (match j, hj with | 0, _ => HD.out.2.2 6 (by omega) | 1, _ => HD.out.2.2 7 (by omega) | 2, _ => HD.out.2.2 8 (by omega)))
        exact inv_val (v := .slice (some ⟨wx.heap.size, 0, none⟩) 3 3) (w' := wx.alloc (.cells #[(.slice (some ⟨p1, 0, none⟩) 3 3), (.slice (some ⟨p1, 3, none⟩) 3 3), (.slice (some ⟨p1, 6, none⟩) 3 3)] 37)) (by simp [go_sem, e0, e1, e2]) (fun h => (by cases h)) trivial (WN.set10 hI [⟨p1, 0, 3, [xs.getD 0 0, xs.getD 1 0, xs.getD 2 0]⟩, ⟨p1, 3, 3, [xs.getD 3 0, xs.getD 4 0, xs.getD 5 0]⟩, ⟨p1, 6, 3, [xs.getD 6 0, xs.getD 7 0, xs.getD 8 0]⟩] rfl (flat9 HD.out.1 p1) _ rfl hrd)
      · obtain ⟨gr, rows, hv1, hm, hfl, hbx, hrd⟩ := hI.b (hdep ⟨6, .data⟩ (by simp) rfl).2
        have e0 := slot_eq hv1
        refine inv_call (f := 77) (args := #[.slice (some ⟨gr, 0, none⟩) 3 3]) (run_go_call Tryz.func77 (by kernel_rfl) (by kernel_rfl) _ _ _ _ _ _ _ _ _ _ (by simp [Act.eval, e0])) (fun h => (by cases h)) ?_
        refine (slices_ConcatF rows 3 wx hbx hm (by omega) hrd (by rw [hfl]; have := HD.out.1; omega) (by rw [hfl]; have := HD.out.1; omega)).mono ?_
        rintro e w' ⟨u', rfl, ho2, hb2⟩
        rw [hfl] at ho2
        exact ⟨u', rfl, trivial, WN.set11 hI ho2 hb2⟩
      · have hc := hI.c (hdep ⟨7, .data⟩ (by simp) rfl).2
        obtain ⟨a1, n1, c1, hv1⟩ := hc.form
        rw [hv1] at hc
        have e1 := slot_eq hv1
        refine inv_call (f := 16) (args := #[.slice a1 n1 c1]) (run_go_call Tryz.func16 (by kernel_rfl) (by kernel_rfl) _ _ _ _ _ _ _ _ _ _ (by simp [Act.eval, e1])) (fun h => (by cases h)) ?_
        refine (ref_AllOwn xs _ _ wx hc (by have := HD.out.1; omega)).mono ?_
        rintro e w' ⟨rfl, hb2⟩
        rw [HR.out]
        exact ⟨_, rfl, rfl, WN.keep hI hb2⟩
      · have e0 := slot_eq (hdep ⟨8, .data⟩ (by simp) rfl).1
        exact inv_val (v := (.bool true)) (by simp [go_sem, e0]) (fun h => (by cases h)) rfl hI
    · intro d vs w6 hd hI hA
      have k0 : vs 0 = (.pointer (some ⟨p1, 0, none⟩)) := hA 0 (by omega)
      have k1 : vs 1 = (.slice (some ⟨p1, 0, none⟩) 3 3) := hA 1 (by omega)
      have k2 : vs 2 = (.pointer (some ⟨p1, 3, none⟩)) := hA 2 (by omega)
      have k3 : vs 3 = (.slice (some ⟨p1, 3, none⟩) 3 3) := hA 3 (by omega)
      have k4 : vs 4 = (.pointer (some ⟨p1, 6, none⟩)) := hA 4 (by omega)
      have k5 : vs 5 = (.slice (some ⟨p1, 6, none⟩) 3 3) := hA 5 (by omega)
      have k8 : vs 8 = (.bool false) := hA 8 (by omega)
      have k9 : vs 9 = (.bool true) := hA 9 (by omega)
      simp only [putAll, dstAt, List.getElem?_toArray, List.getElem?_cons_zero, List.getElem?_cons_succ, Option.bind_some, Option.bind_none, Act.put, List.setIfInBounds_toArray, List.set_cons_zero, List.set_cons_succ, k0, k1, k2, k3, k4, k5, k8, k9]
      have HB : Hid (Below W1.heap.size W1 w6) := Lib.hid hI.bel
      generalize vs 6 = ub at *
      generalize vs 7 = uc at *
      clear hI hA hd k0 k1 k2 k3 k4 k5 k8 k9
      have BXK := Lib.hid BXK
      rw [← HP1.out]
      go_wp2_with fail
      go_ret
      exact ⟨ret_int' (by rw [← HRR.out]; unfold whErr; rw [HR.out]; rfl), HW.out.trans (HB.out.mono (HW.out.size))⟩
  · have HR := Lib.hid hz
    clear hz
    go_enter Tryz.func69, Tryz.ntmps69
    go_upto_region 1 with fail
    refine name_world ?_
    intro W1 hW1
    have X1 : Hid (Bx W1 W.heap.size 34 D) := Lib.hid (by rw [hW1]; exact Bx.new W _ D)
    have HW : Hid (Below W.heap.size W W1) := Lib.hid (by rw [hW1]; exact bnew (ob := .cells D 34) (Below.refl _ _))
    obtain ⟨p1, hp1⟩ : ∃ p, W.heap.size = p := ⟨_, rfl⟩
    rw [hp1] at X1 ⊢
    have HP1 := Lib.hid hp1
    clear hW1 hp1
    have BXK : ∀ w, Below W1.heap.size W1 w → Bx w p1 34 D := fun w h => X1.out.keep h
    refine wp_region_inv 10 (fun qz u' => if qz = 6 then True else if qz = 7 then True else u' = [(.pointer (some ⟨p1, 0, none⟩)), (.slice (some ⟨p1, 0, none⟩) 3 3), (.pointer (some ⟨p1, 3, none⟩)), (.slice (some ⟨p1, 3, none⟩) 3 3), (.pointer (some ⟨p1, 6, none⟩)), (.slice (some ⟨p1, 6, none⟩) 3 3), undef, undef, (.bool true), (.bool false)].getD qz undef) (fun d vs w' => WN W1 xs 3 (d 6) (d 7) (vs 6) (vs 7) w') (by kernel_rfl) (by kernel_rfl) ?_ ?_ ?_
    · intro vs
      exact WN.keep (w := W1) ⟨Below.refl _ _, fun e => (by cases e), fun e => (by cases e)⟩ ((Below.refl _ _).drew)
    · intro iq oq hi ho
      rcases (by omega : iq = 0 ∨ iq = 1 ∨ iq = 2 ∨ iq = 3 ∨ iq = 4 ∨ iq = 5 ∨ iq = 6 ∨ iq = 7 ∨ iq = 8 ∨ iq = 9) with rfl | rfl | rfl | rfl | rfl | rfl | rfl | rfl | rfl | rfl
      all_goals simp only [List.getElem?_cons_zero, List.getElem?_cons_succ, Option.some.injEq] at ho
      all_goals subst ho
      all_goals intro d a0 wx hI hag hdep hun
      · have e0 := slot_eq (hag 1 rfl)
        exact inv_val (v := (.pointer (some ⟨p1, 0, none⟩))) (by simp [go_sem, e0]) (fun h => (by cases h)) rfl hI
      · have e0 := slot_eq (hdep ⟨0, .data⟩ (by simp) rfl).1
        exact inv_val (v := (.slice (some ⟨p1, 0, none⟩) 3 3)) (by simp [go_sem, e0]) (fun h => (by cases h)) rfl hI
      · have e0 := slot_eq (hag 1 rfl)
        exact inv_val (v := (.pointer (some ⟨p1, 3, none⟩))) (by simp [go_sem, e0]) (fun h => (by cases h)) rfl hI
      · have e0 := slot_eq (hdep ⟨2, .data⟩ (by simp) rfl).1
        exact inv_val (v := (.slice (some ⟨p1, 3, none⟩) 3 3)) (by simp [go_sem, e0]) (fun h => (by cases h)) rfl hI
      · have e0 := slot_eq (hag 1 rfl)
        exact inv_val (v := (.pointer (some ⟨p1, 6, none⟩))) (by simp [go_sem, e0]) (fun h => (by cases h)) rfl hI
      · have e0 := slot_eq (hdep ⟨4, .data⟩ (by simp) rfl).1
        exact inv_val (v := (.slice (some ⟨p1, 6, none⟩) 3 3)) (by simp [go_sem, e0]) (fun h => (by cases h)) rfl hI
      · have e0 := slot_eq (hdep ⟨1, .data⟩ (by simp) rfl).1
        have e1 := slot_eq (hdep ⟨3, .data⟩ (by simp) rfl).1
        have e2 := slot_eq (hdep ⟨5, .data⟩ (by simp) rfl).1
        have hb2 : Below wx.heap.size wx (wx.alloc (.cells #[(.slice (some ⟨p1, 0, none⟩) 3 3), (.slice (some ⟨p1, 3, none⟩) 3 3), (.slice (some ⟨p1, 6, none⟩) 3 3)] 37)) := bnew (Below.refl _ _)
        have hbx := BXK wx hI.bel
        have hrd : ∀ (q : Nat) (r : SlF), [⟨p1, 0, 3, [xs.getD 0 0, xs.getD 1 0, xs.getD 2 0]⟩, ⟨p1, 3, 3, [xs.getD 3 0, xs.getD 4 0, xs.getD 5 0]⟩, ⟨p1, 6, 3, [xs.getD 6 0, xs.getD 7 0, xs.getD 8 0]⟩][q]? = some r → r.g < wx.heap.size ∧ ∀ (j : Nat) (u : Value), (r.xs.map (Value.float .f32))[j]? = some u → wx.cell? ((⟨r.g, r.o, none⟩ : Addr).add j) = some u := by
          intro q r hr
          rcases (show q = 0 ∨ q = 1 ∨ q = 2 from by have := (List.getElem?_eq_some_iff.1 hr).1; simp only [List.length_cons, List.length_nil] at this; omega) with rfl | rfl | rfl
          all_goals obtain rfl := Option.some.inj hr
          · exact rows_of hbx _ rfl (fun j hj => (match j, hj with | 0, _ => HD.out.2.2 0 (by omega) | 1, _ => HD.out.2.2 1 (by omega) | 2, _ => HD.out.2.2 2 (by omega)))
          · exact rows_of hbx _ rfl (fun j hj => (match j, hj with | 0, _ => HD.out.2.2 3 (by omega) | 1, _ => HD.out.2.2 4 (by omega) | 2, _ => HD.out.2.2 5 (by omega)))
          · exact rows_of hbx _ rfl (fun j hj => (match j, hj with | 0, _ => HD.out.2.2 6 (by omega) | 1, _ => HD.out.2.2 7 (by omega) | 2, _ => HD.out.2.2 8 (by omega)))
        exact inv_val (v := .slice (some ⟨wx.heap.size, 0, none⟩) 3 3) (w' := wx.alloc (.cells #[(.slice (some ⟨p1, 0, none⟩) 3 3), (.slice (some ⟨p1, 3, none⟩) 3 3), (.slice (some ⟨p1, 6, none⟩) 3 3)] 37)) (by simp [go_sem, e0, e1, e2]) (fun h => (by cases h)) trivial (WN.set10 hI [⟨p1, 0, 3, [xs.getD 0 0, xs.getD 1 0, xs.getD 2 0]⟩, ⟨p1, 3, 3, [xs.getD 3 0, xs.getD 4 0, xs.getD 5 0]⟩, ⟨p1, 6, 3, [xs.getD 6 0, xs.getD 7 0, xs.getD 8 0]⟩] rfl (flat9 HD.out.1 p1) _ rfl hrd)
      · obtain ⟨gr, rows, hv1, hm, hfl, hbx, hrd⟩ := hI.b (hdep ⟨6, .data⟩ (by simp) rfl).2
        have e0 := slot_eq hv1
        refine inv_call (f := 77) (args := #[.slice (some ⟨gr, 0, none⟩) 3 3]) (run_go_call Tryz.func77 (by kernel_rfl) (by kernel_rfl) _ _ _ _ _ _ _ _ _ _ (by simp [Act.eval, e0])) (fun h => (by cases h)) ?_
        refine (slices_ConcatF rows 3 wx hbx hm (by omega) hrd (by rw [hfl]; have := HD.out.1; omega) (by rw [hfl]; have := HD.out.1; omega)).mono ?_
        rintro e w' ⟨u', rfl, ho2, hb2⟩
        rw [hfl] at ho2
        exact ⟨u', rfl, trivial, WN.set11 hI ho2 hb2⟩
      · have hc := hI.c (hdep ⟨7, .data⟩ (by simp) rfl).2
        obtain ⟨a1, n1, c1, hv1⟩ := hc.form
        rw [hv1] at hc
        have e1 := slot_eq hv1
        refine inv_call (f := 16) (args := #[.slice a1 n1 c1]) (run_go_call Tryz.func16 (by kernel_rfl) (by kernel_rfl) _ _ _ _ _ _ _ _ _ _ (by simp [Act.eval, e1])) (fun h => (by cases h)) ?_
        refine (ref_AllOwn xs _ _ wx hc (by have := HD.out.1; omega)).mono ?_
        rintro e w' ⟨rfl, hb2⟩
        rw [HR.out]
        exact ⟨_, rfl, rfl, WN.keep hI hb2⟩
      · have e0 := slot_eq (hdep ⟨8, .data⟩ (by simp) rfl).1
        exact inv_val (v := (.bool false)) (by simp [go_sem, e0]) (fun h => (by cases h)) rfl hI
    · intro d vs w6 hd hI hA
      have k0 : vs 0 = (.pointer (some ⟨p1, 0, none⟩)) := hA 0 (by omega)
      have k1 : vs 1 = (.slice (some ⟨p1, 0, none⟩) 3 3) := hA 1 (by omega)
      have k2 : vs 2 = (.pointer (some ⟨p1, 3, none⟩)) := hA 2 (by omega)
      have k3 : vs 3 = (.slice (some ⟨p1, 3, none⟩) 3 3) := hA 3 (by omega)
      have k4 : vs 4 = (.pointer (some ⟨p1, 6, none⟩)) := hA 4 (by omega)
      have k5 : vs 5 = (.slice (some ⟨p1, 6, none⟩) 3 3) := hA 5 (by omega)
      have k8 : vs 8 = (.bool true) := hA 8 (by omega)
      have k9 : vs 9 = (.bool false) := hA 9 (by omega)
      simp only [putAll, dstAt, List.getElem?_toArray, List.getElem?_cons_zero, List.getElem?_cons_succ, Option.bind_some, Option.bind_none, Act.put, List.setIfInBounds_toArray, List.set_cons_zero, List.set_cons_succ, k0, k1, k2, k3, k4, k5, k8, k9]
      have HB : Hid (Below W1.heap.size W1 w6) := Lib.hid hI.bel
      generalize vs 6 = ub at *
      generalize vs 7 = uc at *
      clear hI hA hd k0 k1 k2 k3 k4 k5 k8 k9
      have BXK := Lib.hid BXK
      rw [← HP1.out]
      obtain ⟨hE1, hE2⟩ := part_cells (BXK.out w6 HB.out) 3 3 (by rw [HD.out.2.1]; omega)
      obtain ⟨D3, hD3⟩ : ∃ D3, D.extract 3 (3 + 3) = D3 := ⟨_, rfl⟩
      have hD4 : ∀ k, k < 3 → D3[k]? = some (.float .f32 ([xs.getD 3 0, xs.getD 4 0, xs.getD 5 0].getD k 0)) := fun k hk => by
        rw [← hD3, Array.getElem?_extract, if_pos (by rw [HD.out.2.1]; omega), HD.out.2.2 (3 + k) (by omega)]
        rcases (by omega : k = 0 ∨ k = 1 ∨ k = 2) with rfl | rfl | rfl <;> rfl
      rw [hD3] at hE1 hE2
      have HE := Lib.hid (And.intro hE1 (And.intro hE2 hD4))
      clear hE1 hE2 hD4 hD3
      have hE2 := HP1.out
      subst hE2
      go_wp2_with (refine wpList_load_cells rfl 32 (.tmp 15) rfl _ 3 rfl D3 HE.out.2.1 _ Tryz.underlying32 rfl (by rw [HE.out.1]; exact size_f3) ?_)
      have HB6 : Hid (Below W.heap.size W w6) := Lib.hid (HW.out.trans (HB.out.mono HW.out.size))
      go_loopw [17] (fun i wr => ∃ k : Nat, k ≤ 3 ∧ i = .int .i64 (k : Int) ∧ Hid (([xs.getD 3 0, xs.getD 4 0, xs.getD 5 0].take k).any badP = false) ∧ Below W.heap.size W wr) (fun i _ => 3 - (RowKit.intOf i).toNat)
      case atStart => exact ⟨0, by omega, rfl, Lib.hid rfl, HB6.out⟩
      case round =>
        obtain ⟨k, hk, rfl, HA, hbl⟩ := hrel
        by_cases hlt : k < 3
        · have hd1 : decide ((k : Int) < 3) = true := decide_eq_true (by omega)
          have h1 := any_takeG badP [xs.getD 3 0, xs.getD 4 0, xs.getD 5 0] 0 k (by exact hlt)
          rw [HA.out, Bool.false_or] at h1
          have h2 := any_has badP [xs.getD 3 0, xs.getD 4 0, xs.getD 5 0] 0 k (by exact hlt)
          have hx := HE.out.2.2 k hlt
          generalize [xs.getD 3 0, xs.getD 4 0, xs.getD 5 0].getD k 0 = z at *
          have H1 := Lib.hid h1
          have H2 := Lib.hid h2
          have HX := Lib.hid hx
          clear h1 h2 hx
          cases hz1 : (FloatKind.f32.format.order z 1031798784 == some .lt)
          · cases hz2 : (FloatKind.f32.format.order z 1098907648 == some .gt)
            · have HB : Hid (badP z = false) := Lib.hid (by unfold badP; rw [hz1, hz2]; rfl)
              go_wp2_with (refine wpList_index_f3 rfl (.tmp 16) (.tmp 17) rfl rfl rfl hlt HX.out ?_)
              go_roundw
              case rel => exact ⟨k + 1, by omega, by go_num, Lib.hid (by rw [H1.out, HB.out]), hbl⟩
              case measure => simp [RowKit.intOf]; omega
            · have HB : Hid (badP z = true) := Lib.hid (by unfold badP; rw [hz1, hz2]; rfl)
              go_wp2_with (refine wpList_index_f3 rfl (.tmp 16) (.tmp 17) rfl rfl rfl hlt HX.out ?_)
              go_ret
              exact ⟨ret_int' (by rw [← HRR.out]; have := H2.out HB.out; simp only [List.any_cons, List.any_nil, Bool.or_false] at this; unfold whErr; rw [HR.out, this]; rfl), hbl⟩
          · have HB : Hid (badP z = true) := Lib.hid (by unfold badP; rw [hz1]; rfl)
            go_wp2_with (refine wpList_index_f3 rfl (.tmp 16) (.tmp 17) rfl rfl rfl hlt HX.out ?_)
            go_ret
            exact ⟨ret_int' (by rw [← HRR.out]; have := H2.out HB.out; simp only [List.any_cons, List.any_nil, Bool.or_false] at this; unfold whErr; rw [HR.out, this]; rfl), hbl⟩
        · obtain rfl : k = 3 := by omega
          go_wp2_with fail
          go_ret
          exact ⟨ret_int' (by rw [← HRR.out]; have := HA.out; rw [List.take_of_length_le (by simp)] at this; simp only [List.any_cons, List.any_nil, Bool.or_false] at this; unfold whErr; rw [HR.out, this]; rfl), hbl⟩
set_option maxRecDepth 100000 in
set_option maxHeartbeats 8000000 in
theorem grade_CheckList (D : Array Value) (xs : List Nat) (hl : xs.length = 10) (hs : D.size = 10) (hD : ∀ k, k < 10 → D[k]? = some (.float .f32 (xs.getD k 0))) (W : World) : Calls Tryz.prog 81 #[.agg D] W fun e w' => e = .returned (.int .i64 (lsErr xs)) ∧ Below W.heap.size W w' := by
  have HD := Lib.hid (And.intro hl (And.intro hs hD))
  clear hl hs hD
  obtain ⟨R, hR⟩ : ∃ R : Int, lsErr xs = R := ⟨_, rfl⟩
  have HRR := Lib.hid hR
  rw [hR]
  clear hR
  cases hz : xs.all isNum
  · have HR := Lib.hid hz
    clear hz
    go_enter Tryz.func81, Tryz.ntmps81
    go_upto_region 1 with fail
    refine name_world ?_
    intro W1 hW1
    have X1 : Hid (Bx W1 W.heap.size 36 D) := Lib.hid (by rw [hW1]; exact Bx.new W _ D)
    have HW : Hid (Below W.heap.size W W1) := Lib.hid (by rw [hW1]; exact bnew (ob := .cells D 36) (Below.refl _ _))
    obtain ⟨p1, hp1⟩ : ∃ p, W.heap.size = p := ⟨_, rfl⟩
    rw [hp1] at X1 ⊢
    have HP1 := Lib.hid hp1
    clear hW1 hp1
    have BXK : ∀ w, Below W1.heap.size W1 w → Bx w p1 36 D := fun w h => X1.out.keep h
    refine wp_region_inv 13 (fun qz u' => if qz = 8 then True else if qz = 9 then True else if qz = 10 then True else u' = [(.pointer (some ⟨p1, 0, none⟩)), (.slice (some ⟨p1, 0, none⟩) 3 3), (.pointer (some ⟨p1, 3, none⟩)), (.slice (some ⟨p1, 3, none⟩) 3 3), (.pointer (some ⟨p1, 6, none⟩)), (.slice (some ⟨p1, 6, none⟩) 3 3), (.pointer (some ⟨p1, 9, none⟩)), (.float .f32 (xs.getD 9 0)), undef, undef, undef, (.bool false), (.bool true)].getD qz undef) (fun d vs w' => WN W1 xs 4 (d 9) (d 10) (vs 9) (vs 10) w' ∧ (d 8 = true → ∃ g1, vs 8 = .slice (some ⟨g1, 0, none⟩) 1 1 ∧ Bx w' g1 23 #[.float .f32 (xs.getD 9 0)])) (by kernel_rfl) (by kernel_rfl) ?_ ?_ ?_
    · intro vs
      exact ⟨WN.keep (w := W1) ⟨Below.refl _ _, fun e => (by cases e), fun e => (by cases e)⟩ ((Below.refl _ _).drew), fun e => (by cases e)⟩
    · intro iq oq hi ho
      rcases (by omega : iq = 0 ∨ iq = 1 ∨ iq = 2 ∨ iq = 3 ∨ iq = 4 ∨ iq = 5 ∨ iq = 6 ∨ iq = 7 ∨ iq = 8 ∨ iq = 9 ∨ iq = 10 ∨ iq = 11 ∨ iq = 12) with rfl | rfl | rfl | rfl | rfl | rfl | rfl | rfl | rfl | rfl | rfl | rfl | rfl
      all_goals simp only [List.getElem?_cons_zero, List.getElem?_cons_succ, Option.some.injEq] at ho
      all_goals subst ho
      all_goals intro d a0 wx hI hag hdep hun
      · have e0 := slot_eq (hag 1 rfl)
        exact inv_val (v := (.pointer (some ⟨p1, 0, none⟩))) (by simp [go_sem, e0]) (fun h => (by cases h)) rfl hI
      · have e0 := slot_eq (hdep ⟨0, .data⟩ (by simp) rfl).1
        exact inv_val (v := (.slice (some ⟨p1, 0, none⟩) 3 3)) (by simp [go_sem, e0]) (fun h => (by cases h)) rfl hI
      · have e0 := slot_eq (hag 1 rfl)
        exact inv_val (v := (.pointer (some ⟨p1, 3, none⟩))) (by simp [go_sem, e0]) (fun h => (by cases h)) rfl hI
      · have e0 := slot_eq (hdep ⟨2, .data⟩ (by simp) rfl).1
        exact inv_val (v := (.slice (some ⟨p1, 3, none⟩) 3 3)) (by simp [go_sem, e0]) (fun h => (by cases h)) rfl hI
      · have e0 := slot_eq (hag 1 rfl)
        exact inv_val (v := (.pointer (some ⟨p1, 6, none⟩))) (by simp [go_sem, e0]) (fun h => (by cases h)) rfl hI
      · have e0 := slot_eq (hdep ⟨4, .data⟩ (by simp) rfl).1
        exact inv_val (v := (.slice (some ⟨p1, 6, none⟩) 3 3)) (by simp [go_sem, e0]) (fun h => (by cases h)) rfl hI
      · have e0 := slot_eq (hag 1 rfl)
        exact inv_val (v := (.pointer (some ⟨p1, 9, none⟩))) (by simp [go_sem, e0]) (fun h => (by cases h)) rfl hI
      · have hq := (BXK wx hI.1.bel).all.1 9
        rw [HD.out.2.2 9 (by omega)] at hq
        have e0 := slot_eq (hdep ⟨6, .data⟩ (by simp) rfl).1
        exact inv_val (v := (.float .f32 (xs.getD 9 0))) (by simp [go_sem, e0, hq]) (fun h => (by cases h)) rfl hI
      · have e0 := slot_eq (hdep ⟨7, .data⟩ (by simp) rfl).1
        exact inv_val (v := .slice (some ⟨wx.heap.size, 0, none⟩) 1 1) (w' := wx.alloc (.cells #[.float .f32 (xs.getD 9 0)] 23)) (by simp [go_sem, e0]) (fun h => (by cases h)) trivial ⟨WN.keep hI.1 (bnew (Below.refl _ _)), fun _ => ⟨_, rfl, Bx.new _ _ _⟩⟩
      · have e0 := slot_eq (hdep ⟨1, .data⟩ (by simp) rfl).1
        have e1 := slot_eq (hdep ⟨3, .data⟩ (by simp) rfl).1
        have e2 := slot_eq (hdep ⟨5, .data⟩ (by simp) rfl).1
        obtain ⟨g1, hv1, hx1⟩ := hI.2 (hdep ⟨8, .data⟩ (by simp) rfl).2
        have e3 := slot_eq hv1
        have hb2 : Below wx.heap.size wx (wx.alloc (.cells #[(.slice (some ⟨p1, 0, none⟩) 3 3), (.slice (some ⟨p1, 3, none⟩) 3 3), (.slice (some ⟨p1, 6, none⟩) 3 3), .slice (some ⟨g1, 0, none⟩) 1 1] 37)) := bnew (Below.refl _ _)
        have hbx := BXK wx hI.1.bel
        have hrd : ∀ (q : Nat) (r : SlF), [⟨p1, 0, 3, [xs.getD 0 0, xs.getD 1 0, xs.getD 2 0]⟩, ⟨p1, 3, 3, [xs.getD 3 0, xs.getD 4 0, xs.getD 5 0]⟩, ⟨p1, 6, 3, [xs.getD 6 0, xs.getD 7 0, xs.getD 8 0]⟩, ⟨g1, 0, 1, [xs.getD 9 0]⟩][q]? = some r → r.g < wx.heap.size ∧ ∀ (j : Nat) (u : Value), (r.xs.map (Value.float .f32))[j]? = some u → wx.cell? ((⟨r.g, r.o, none⟩ : Addr).add j) = some u := by
          intro q r hr
          rcases (show q = 0 ∨ q = 1 ∨ q = 2 ∨ q = 3 from by have := (List.getElem?_eq_some_iff.1 hr).1; simp only [List.length_cons, List.length_nil] at this; omega) with rfl | rfl | rfl | rfl
          all_goals obtain rfl := Option.some.inj hr
          · exact rows_of hbx _ rfl (fun j hj => (match j, hj with | 0, _ => HD.out.2.2 0 (by omega) | 1, _ => HD.out.2.2 1 (by omega) | 2, _ => HD.out.2.2 2 (by omega)))
          · exact rows_of hbx _ rfl (fun j hj => (match j, hj with | 0, _ => HD.out.2.2 3 (by omega) | 1, _ => HD.out.2.2 4 (by omega) | 2, _ => HD.out.2.2 5 (by omega)))
          · exact rows_of hbx _ rfl (fun j hj => (match j, hj with | 0, _ => HD.out.2.2 6 (by omega) | 1, _ => HD.out.2.2 7 (by omega) | 2, _ => HD.out.2.2 8 (by omega)))
          · exact rows_of hx1 _ rfl (fun j hj => (match j, hj with | 0, _ => rfl))
        exact inv_val (v := .slice (some ⟨wx.heap.size, 0, none⟩) 4 4) (w' := wx.alloc (.cells #[(.slice (some ⟨p1, 0, none⟩) 3 3), (.slice (some ⟨p1, 3, none⟩) 3 3), (.slice (some ⟨p1, 6, none⟩) 3 3), .slice (some ⟨g1, 0, none⟩) 1 1] 37)) (by simp [go_sem, e0, e1, e2, e3]) (fun h => (by cases h)) trivial ⟨WN.set10 hI.1 [⟨p1, 0, 3, [xs.getD 0 0, xs.getD 1 0, xs.getD 2 0]⟩, ⟨p1, 3, 3, [xs.getD 3 0, xs.getD 4 0, xs.getD 5 0]⟩, ⟨p1, 6, 3, [xs.getD 6 0, xs.getD 7 0, xs.getD 8 0]⟩, ⟨g1, 0, 1, [xs.getD 9 0]⟩] rfl (flat10 HD.out.1 p1 g1) _ rfl hrd, fun e => (by obtain ⟨g2, f1, f2⟩ := hI.2 e; exact ⟨g2, f1, f2.keep hb2⟩)⟩
      · obtain ⟨gr, rows, hv1, hm, hfl, hbx, hrd⟩ := hI.1.b (hdep ⟨9, .data⟩ (by simp) rfl).2
        have e0 := slot_eq hv1
        refine inv_call (f := 77) (args := #[.slice (some ⟨gr, 0, none⟩) 4 4]) (run_go_call Tryz.func77 (by kernel_rfl) (by kernel_rfl) _ _ _ _ _ _ _ _ _ _ (by simp [Act.eval, e0])) (fun h => (by cases h)) ?_
        refine (slices_ConcatF rows 4 wx hbx hm (by omega) hrd (by rw [hfl]; have := HD.out.1; omega) (by rw [hfl]; have := HD.out.1; omega)).mono ?_
        rintro e w' ⟨u', rfl, ho2, hb2⟩
        rw [hfl] at ho2
        exact ⟨u', rfl, trivial, ⟨WN.set11 hI.1 ho2 hb2, fun e => (by obtain ⟨g2, f1, f2⟩ := hI.2 e; exact ⟨g2, f1, f2.keep hb2⟩)⟩⟩
      · have hc := hI.1.c (hdep ⟨10, .data⟩ (by simp) rfl).2
        obtain ⟨a1, n1, c1, hv1⟩ := hc.form
        rw [hv1] at hc
        have e1 := slot_eq hv1
        refine inv_call (f := 84) (args := #[.slice a1 n1 c1]) (run_go_call Tryz.func84 (by kernel_rfl) (by kernel_rfl) _ _ _ _ _ _ _ _ _ _ (by simp [Act.eval, e1])) (fun h => (by cases h)) ?_
        refine (num_AllOwn xs _ _ wx hc (by have := HD.out.1; omega)).mono ?_
        rintro e w' ⟨rfl, hb2⟩
        rw [HR.out]
        exact ⟨_, rfl, rfl, ⟨WN.keep hI.1 hb2, fun e => (by obtain ⟨g2, f1, f2⟩ := hI.2 e; exact ⟨g2, f1, f2.keep hb2⟩)⟩⟩
      · have e0 := slot_eq (hdep ⟨11, .data⟩ (by simp) rfl).1
        exact inv_val (v := (.bool true)) (by simp [go_sem, e0]) (fun h => (by cases h)) rfl hI
    · intro d vs w6 hd hI hA
      have k0 : vs 0 = (.pointer (some ⟨p1, 0, none⟩)) := hA 0 (by omega)
      have k1 : vs 1 = (.slice (some ⟨p1, 0, none⟩) 3 3) := hA 1 (by omega)
      have k2 : vs 2 = (.pointer (some ⟨p1, 3, none⟩)) := hA 2 (by omega)
      have k3 : vs 3 = (.slice (some ⟨p1, 3, none⟩) 3 3) := hA 3 (by omega)
      have k4 : vs 4 = (.pointer (some ⟨p1, 6, none⟩)) := hA 4 (by omega)
      have k5 : vs 5 = (.slice (some ⟨p1, 6, none⟩) 3 3) := hA 5 (by omega)
      have k6 : vs 6 = (.pointer (some ⟨p1, 9, none⟩)) := hA 6 (by omega)
      have k7 : vs 7 = (.float .f32 (xs.getD 9 0)) := hA 7 (by omega)
      have k11 : vs 11 = (.bool false) := hA 11 (by omega)
      have k12 : vs 12 = (.bool true) := hA 12 (by omega)
      simp only [putAll, dstAt, List.getElem?_toArray, List.getElem?_cons_zero, List.getElem?_cons_succ, Option.bind_some, Option.bind_none, Act.put, List.setIfInBounds_toArray, List.set_cons_zero, List.set_cons_succ, k0, k1, k2, k3, k4, k5, k6, k7, k11, k12]
      have HB : Hid (Below W1.heap.size W1 w6) := Lib.hid hI.1.bel
      generalize vs 9 = ub at *
      generalize vs 10 = uc at *
      generalize vs 8 = ud at *
      clear hI hA hd k0 k1 k2 k3 k4 k5 k6 k7 k11 k12
      have BXK := Lib.hid BXK
      rw [← HP1.out]
      go_wp2_with fail
      go_ret
      exact ⟨ret_int' (by rw [← HRR.out]; unfold lsErr; rw [HR.out]; rfl), HW.out.trans (HB.out.mono (HW.out.size))⟩
  · have HR := Lib.hid hz
    clear hz
    go_enter Tryz.func81, Tryz.ntmps81
    go_upto_region 1 with fail
    refine name_world ?_
    intro W1 hW1
    have X1 : Hid (Bx W1 W.heap.size 36 D) := Lib.hid (by rw [hW1]; exact Bx.new W _ D)
    have HW : Hid (Below W.heap.size W W1) := Lib.hid (by rw [hW1]; exact bnew (ob := .cells D 36) (Below.refl _ _))
    obtain ⟨p1, hp1⟩ : ∃ p, W.heap.size = p := ⟨_, rfl⟩
    rw [hp1] at X1 ⊢
    have HP1 := Lib.hid hp1
    clear hW1 hp1
    have BXK : ∀ w, Below W1.heap.size W1 w → Bx w p1 36 D := fun w h => X1.out.keep h
    refine wp_region_inv 13 (fun qz u' => if qz = 8 then True else if qz = 9 then True else if qz = 10 then True else u' = [(.pointer (some ⟨p1, 0, none⟩)), (.slice (some ⟨p1, 0, none⟩) 3 3), (.pointer (some ⟨p1, 3, none⟩)), (.slice (some ⟨p1, 3, none⟩) 3 3), (.pointer (some ⟨p1, 6, none⟩)), (.slice (some ⟨p1, 6, none⟩) 3 3), (.pointer (some ⟨p1, 9, none⟩)), (.float .f32 (xs.getD 9 0)), undef, undef, undef, (.bool true), (.bool false)].getD qz undef) (fun d vs w' => WN W1 xs 4 (d 9) (d 10) (vs 9) (vs 10) w' ∧ (d 8 = true → ∃ g1, vs 8 = .slice (some ⟨g1, 0, none⟩) 1 1 ∧ Bx w' g1 23 #[.float .f32 (xs.getD 9 0)])) (by kernel_rfl) (by kernel_rfl) ?_ ?_ ?_
    · intro vs
      exact ⟨WN.keep (w := W1) ⟨Below.refl _ _, fun e => (by cases e), fun e => (by cases e)⟩ ((Below.refl _ _).drew), fun e => (by cases e)⟩
    · intro iq oq hi ho
      rcases (by omega : iq = 0 ∨ iq = 1 ∨ iq = 2 ∨ iq = 3 ∨ iq = 4 ∨ iq = 5 ∨ iq = 6 ∨ iq = 7 ∨ iq = 8 ∨ iq = 9 ∨ iq = 10 ∨ iq = 11 ∨ iq = 12) with rfl | rfl | rfl | rfl | rfl | rfl | rfl | rfl | rfl | rfl | rfl | rfl | rfl
      all_goals simp only [List.getElem?_cons_zero, List.getElem?_cons_succ, Option.some.injEq] at ho
      all_goals subst ho
      all_goals intro d a0 wx hI hag hdep hun
      · have e0 := slot_eq (hag 1 rfl)
        exact inv_val (v := (.pointer (some ⟨p1, 0, none⟩))) (by simp [go_sem, e0]) (fun h => (by cases h)) rfl hI
      · have e0 := slot_eq (hdep ⟨0, .data⟩ (by simp) rfl).1
        exact inv_val (v := (.slice (some ⟨p1, 0, none⟩) 3 3)) (by simp [go_sem, e0]) (fun h => (by cases h)) rfl hI
      · have e0 := slot_eq (hag 1 rfl)
        exact inv_val (v := (.pointer (some ⟨p1, 3, none⟩))) (by simp [go_sem, e0]) (fun h => (by cases h)) rfl hI
      · have e0 := slot_eq (hdep ⟨2, .data⟩ (by simp) rfl).1
        exact inv_val (v := (.slice (some ⟨p1, 3, none⟩) 3 3)) (by simp [go_sem, e0]) (fun h => (by cases h)) rfl hI
      · have e0 := slot_eq (hag 1 rfl)
        exact inv_val (v := (.pointer (some ⟨p1, 6, none⟩))) (by simp [go_sem, e0]) (fun h => (by cases h)) rfl hI
      · have e0 := slot_eq (hdep ⟨4, .data⟩ (by simp) rfl).1
        exact inv_val (v := (.slice (some ⟨p1, 6, none⟩) 3 3)) (by simp [go_sem, e0]) (fun h => (by cases h)) rfl hI
      · have e0 := slot_eq (hag 1 rfl)
        exact inv_val (v := (.pointer (some ⟨p1, 9, none⟩))) (by simp [go_sem, e0]) (fun h => (by cases h)) rfl hI
      · have hq := (BXK wx hI.1.bel).all.1 9
        rw [HD.out.2.2 9 (by omega)] at hq
        have e0 := slot_eq (hdep ⟨6, .data⟩ (by simp) rfl).1
        exact inv_val (v := (.float .f32 (xs.getD 9 0))) (by simp [go_sem, e0, hq]) (fun h => (by cases h)) rfl hI
      · have e0 := slot_eq (hdep ⟨7, .data⟩ (by simp) rfl).1
        exact inv_val (v := .slice (some ⟨wx.heap.size, 0, none⟩) 1 1) (w' := wx.alloc (.cells #[.float .f32 (xs.getD 9 0)] 23)) (by simp [go_sem, e0]) (fun h => (by cases h)) trivial ⟨WN.keep hI.1 (bnew (Below.refl _ _)), fun _ => ⟨_, rfl, Bx.new _ _ _⟩⟩
      · have e0 := slot_eq (hdep ⟨1, .data⟩ (by simp) rfl).1
        have e1 := slot_eq (hdep ⟨3, .data⟩ (by simp) rfl).1
        have e2 := slot_eq (hdep ⟨5, .data⟩ (by simp) rfl).1
        obtain ⟨g1, hv1, hx1⟩ := hI.2 (hdep ⟨8, .data⟩ (by simp) rfl).2
        have e3 := slot_eq hv1
        have hb2 : Below wx.heap.size wx (wx.alloc (.cells #[(.slice (some ⟨p1, 0, none⟩) 3 3), (.slice (some ⟨p1, 3, none⟩) 3 3), (.slice (some ⟨p1, 6, none⟩) 3 3), .slice (some ⟨g1, 0, none⟩) 1 1] 37)) := bnew (Below.refl _ _)
        have hbx := BXK wx hI.1.bel
        have hrd : ∀ (q : Nat) (r : SlF), [⟨p1, 0, 3, [xs.getD 0 0, xs.getD 1 0, xs.getD 2 0]⟩, ⟨p1, 3, 3, [xs.getD 3 0, xs.getD 4 0, xs.getD 5 0]⟩, ⟨p1, 6, 3, [xs.getD 6 0, xs.getD 7 0, xs.getD 8 0]⟩, ⟨g1, 0, 1, [xs.getD 9 0]⟩][q]? = some r → r.g < wx.heap.size ∧ ∀ (j : Nat) (u : Value), (r.xs.map (Value.float .f32))[j]? = some u → wx.cell? ((⟨r.g, r.o, none⟩ : Addr).add j) = some u := by
          intro q r hr
          rcases (show q = 0 ∨ q = 1 ∨ q = 2 ∨ q = 3 from by have := (List.getElem?_eq_some_iff.1 hr).1; simp only [List.length_cons, List.length_nil] at this; omega) with rfl | rfl | rfl | rfl
          all_goals obtain rfl := Option.some.inj hr
          · exact rows_of hbx _ rfl (fun j hj => (match j, hj with | 0, _ => HD.out.2.2 0 (by omega) | 1, _ => HD.out.2.2 1 (by omega) | 2, _ => HD.out.2.2 2 (by omega)))
          · exact rows_of hbx _ rfl (fun j hj => (match j, hj with | 0, _ => HD.out.2.2 3 (by omega) | 1, _ => HD.out.2.2 4 (by omega) | 2, _ => HD.out.2.2 5 (by omega)))
          · exact rows_of hbx _ rfl (fun j hj => (match j, hj with | 0, _ => HD.out.2.2 6 (by omega) | 1, _ => HD.out.2.2 7 (by omega) | 2, _ => HD.out.2.2 8 (by omega)))
          · exact rows_of hx1 _ rfl (fun j hj => (match j, hj with | 0, _ => rfl))
        exact inv_val (v := .slice (some ⟨wx.heap.size, 0, none⟩) 4 4) (w' := wx.alloc (.cells #[(.slice (some ⟨p1, 0, none⟩) 3 3), (.slice (some ⟨p1, 3, none⟩) 3 3), (.slice (some ⟨p1, 6, none⟩) 3 3), .slice (some ⟨g1, 0, none⟩) 1 1] 37)) (by simp [go_sem, e0, e1, e2, e3]) (fun h => (by cases h)) trivial ⟨WN.set10 hI.1 [⟨p1, 0, 3, [xs.getD 0 0, xs.getD 1 0, xs.getD 2 0]⟩, ⟨p1, 3, 3, [xs.getD 3 0, xs.getD 4 0, xs.getD 5 0]⟩, ⟨p1, 6, 3, [xs.getD 6 0, xs.getD 7 0, xs.getD 8 0]⟩, ⟨g1, 0, 1, [xs.getD 9 0]⟩] rfl (flat10 HD.out.1 p1 g1) _ rfl hrd, fun e => (by obtain ⟨g2, f1, f2⟩ := hI.2 e; exact ⟨g2, f1, f2.keep hb2⟩)⟩
      · obtain ⟨gr, rows, hv1, hm, hfl, hbx, hrd⟩ := hI.1.b (hdep ⟨9, .data⟩ (by simp) rfl).2
        have e0 := slot_eq hv1
        refine inv_call (f := 77) (args := #[.slice (some ⟨gr, 0, none⟩) 4 4]) (run_go_call Tryz.func77 (by kernel_rfl) (by kernel_rfl) _ _ _ _ _ _ _ _ _ _ (by simp [Act.eval, e0])) (fun h => (by cases h)) ?_
        refine (slices_ConcatF rows 4 wx hbx hm (by omega) hrd (by rw [hfl]; have := HD.out.1; omega) (by rw [hfl]; have := HD.out.1; omega)).mono ?_
        rintro e w' ⟨u', rfl, ho2, hb2⟩
        rw [hfl] at ho2
        exact ⟨u', rfl, trivial, ⟨WN.set11 hI.1 ho2 hb2, fun e => (by obtain ⟨g2, f1, f2⟩ := hI.2 e; exact ⟨g2, f1, f2.keep hb2⟩)⟩⟩
      · have hc := hI.1.c (hdep ⟨10, .data⟩ (by simp) rfl).2
        obtain ⟨a1, n1, c1, hv1⟩ := hc.form
        rw [hv1] at hc
        have e1 := slot_eq hv1
        refine inv_call (f := 84) (args := #[.slice a1 n1 c1]) (run_go_call Tryz.func84 (by kernel_rfl) (by kernel_rfl) _ _ _ _ _ _ _ _ _ _ (by simp [Act.eval, e1])) (fun h => (by cases h)) ?_
        refine (num_AllOwn xs _ _ wx hc (by have := HD.out.1; omega)).mono ?_
        rintro e w' ⟨rfl, hb2⟩
        rw [HR.out]
        exact ⟨_, rfl, rfl, ⟨WN.keep hI.1 hb2, fun e => (by obtain ⟨g2, f1, f2⟩ := hI.2 e; exact ⟨g2, f1, f2.keep hb2⟩)⟩⟩
      · have e0 := slot_eq (hdep ⟨11, .data⟩ (by simp) rfl).1
        exact inv_val (v := (.bool false)) (by simp [go_sem, e0]) (fun h => (by cases h)) rfl hI
    · intro d vs w6 hd hI hA
      have k0 : vs 0 = (.pointer (some ⟨p1, 0, none⟩)) := hA 0 (by omega)
      have k1 : vs 1 = (.slice (some ⟨p1, 0, none⟩) 3 3) := hA 1 (by omega)
      have k2 : vs 2 = (.pointer (some ⟨p1, 3, none⟩)) := hA 2 (by omega)
      have k3 : vs 3 = (.slice (some ⟨p1, 3, none⟩) 3 3) := hA 3 (by omega)
      have k4 : vs 4 = (.pointer (some ⟨p1, 6, none⟩)) := hA 4 (by omega)
      have k5 : vs 5 = (.slice (some ⟨p1, 6, none⟩) 3 3) := hA 5 (by omega)
      have k6 : vs 6 = (.pointer (some ⟨p1, 9, none⟩)) := hA 6 (by omega)
      have k7 : vs 7 = (.float .f32 (xs.getD 9 0)) := hA 7 (by omega)
      have k11 : vs 11 = (.bool true) := hA 11 (by omega)
      have k12 : vs 12 = (.bool false) := hA 12 (by omega)
      simp only [putAll, dstAt, List.getElem?_toArray, List.getElem?_cons_zero, List.getElem?_cons_succ, Option.bind_some, Option.bind_none, Act.put, List.setIfInBounds_toArray, List.set_cons_zero, List.set_cons_succ, k0, k1, k2, k3, k4, k5, k6, k7, k11, k12]
      have HB : Hid (Below W1.heap.size W1 w6) := Lib.hid hI.1.bel
      generalize vs 9 = ub at *
      generalize vs 10 = uc at *
      generalize vs 8 = ud at *
      clear hI hA hd k0 k1 k2 k3 k4 k5 k6 k7 k11 k12
      have BXK := Lib.hid BXK
      rw [← HP1.out]
      have hE2 := HP1.out
      subst hE2
      have hq0 := (BXK.out w6 HB.out).all.1 0
      rw [HD.out.2.2 0 (by omega)] at hq0
      have hq1 := (BXK.out w6 HB.out).all.1 1
      rw [HD.out.2.2 1 (by omega)] at hq1
      have hq2 := (BXK.out w6 HB.out).all.1 2
      rw [HD.out.2.2 2 (by omega)] at hq2
      have hq6 := (BXK.out w6 HB.out).all.1 6
      rw [HD.out.2.2 6 (by omega)] at hq6
      have hq7 := (BXK.out w6 HB.out).all.1 7
      rw [HD.out.2.2 7 (by omega)] at hq7
      have hq8 := (BXK.out w6 HB.out).all.1 8
      rw [HD.out.2.2 8 (by omega)] at hq8
      obtain ⟨x0, hx0⟩ : ∃ x, xs.getD 0 0 = x := ⟨_, rfl⟩
      obtain ⟨x1, hx1⟩ : ∃ x, xs.getD 1 0 = x := ⟨_, rfl⟩
      obtain ⟨x2, hx2⟩ : ∃ x, xs.getD 2 0 = x := ⟨_, rfl⟩
      obtain ⟨x6, hx6⟩ : ∃ x, xs.getD 6 0 = x := ⟨_, rfl⟩
      obtain ⟨x7, hx7⟩ : ∃ x, xs.getD 7 0 = x := ⟨_, rfl⟩
      obtain ⟨x8, hx8⟩ : ∃ x, xs.getD 8 0 = x := ⟨_, rfl⟩
      obtain ⟨x9, hx9⟩ : ∃ x, xs.getD 9 0 = x := ⟨_, rfl⟩
      rw [hx0] at hq0
      rw [hx1] at hq1
      rw [hx2] at hq2
      rw [hx6] at hq6
      rw [hx7] at hq7
      rw [hx8] at hq8
      have HX := Lib.hid (And.intro hx0 (And.intro hx1 (And.intro hx2 (And.intro hx6 (And.intro hx7 (And.intro hx8 hx9))))))
      clear hx0 hx1 hx2 hx6 hx7 hx8 hx9
      have HB6 : Hid (Below W.heap.size W w6) := Lib.hid (HW.out.trans (HB.out.mono HW.out.size))
      cases h1 : (FloatKind.f32.format.order x0 0 == some .lt)
      · cases h2 : (FloatKind.f32.format.order x1 0 == some .lt)
        · cases h3 : (FloatKind.f32.format.order x2 0 == some .lt)
          · go_wp2_with fail
            refine (grade_powered _ [x6, x7, x8] rfl rfl (fun k hk => (match k, hk with | 0, _ => rfl | 1, _ => rfl | 2, _ => rfl)) w6).mono ?_
            rintro e w7 ⟨rfl, hb7⟩
            have HB7 : Hid (Below W.heap.size W w7) := Lib.hid (bcall HB6.out hb7)
            have hq9 := (BXK.out w7 (HB.out.trans (hb7.mono HB.out.size))).all.1 9
            rw [HD.out.2.2 9 (by omega), HX.out.2.2.2.2.2.2] at hq9
            clear hb7
            obtain ⟨r, hr⟩ : ∃ r, [x6, x7, x8].any badP = r := ⟨_, rfl⟩
            rw [hr]
            simp only [List.any_cons, List.any_nil, Bool.or_false] at hr
            have HQ := Lib.hid hr
            clear hr
            cases r
            · cases h5 : (FloatKind.f32.format.order x9 0 == some .lt)
              · cases h6 : (FloatKind.f32.format.order x9 1090519040 == some .gt)
                · simp only [Bool.not_false]
                  go_wp2_with fail
                  go_ret
                  exact ⟨ret_int' (by rw [← HRR.out]; unfold lsErr; rw [HR.out, (show lsBad xs = false from by unfold lsBad neg0; rw [HX.out.1, HX.out.2.1, HX.out.2.2.1, HX.out.2.2.2.1, HX.out.2.2.2.2.1, HX.out.2.2.2.2.2.1, HX.out.2.2.2.2.2.2]; simp only [h1, h2, h3, HQ.out, h5, h6]; simp)]; rfl), HB7.out⟩
                · simp only [Bool.not_false]
                  go_wp2_with fail
                  go_ret
                  exact ⟨ret_int' (by rw [← HRR.out]; unfold lsErr; rw [HR.out, (show lsBad xs = true from by unfold lsBad neg0; rw [HX.out.1, HX.out.2.1, HX.out.2.2.1, HX.out.2.2.2.1, HX.out.2.2.2.2.1, HX.out.2.2.2.2.2.1, HX.out.2.2.2.2.2.2]; simp only [h1, h2, h3, HQ.out, h5, h6]; simp)]; rfl), HB7.out⟩
              · simp only [Bool.not_false]
                go_wp2_with fail
                go_ret
                exact ⟨ret_int' (by rw [← HRR.out]; unfold lsErr; rw [HR.out, (show lsBad xs = true from by unfold lsBad neg0; rw [HX.out.1, HX.out.2.1, HX.out.2.2.1, HX.out.2.2.2.1, HX.out.2.2.2.2.1, HX.out.2.2.2.2.2.1, HX.out.2.2.2.2.2.2]; simp only [h1, h2, h3, HQ.out, h5]; simp)]; rfl), HB7.out⟩
            · simp only [Bool.not_true]
              go_wp2_with fail
              go_ret
              exact ⟨ret_int' (by rw [← HRR.out]; unfold lsErr; rw [HR.out, (show lsBad xs = true from by unfold lsBad neg0; rw [HX.out.1, HX.out.2.1, HX.out.2.2.1, HX.out.2.2.2.1, HX.out.2.2.2.2.1, HX.out.2.2.2.2.2.1, HX.out.2.2.2.2.2.2]; simp only [h1, h2, h3, HQ.out]; simp)]; rfl), HB7.out⟩
          · go_wp2_with fail
            go_ret
            exact ⟨ret_int' (by rw [← HRR.out]; unfold lsErr; rw [HR.out, (show lsBad xs = true from by unfold lsBad neg0; rw [HX.out.1, HX.out.2.1, HX.out.2.2.1, HX.out.2.2.2.1, HX.out.2.2.2.2.1, HX.out.2.2.2.2.2.1, HX.out.2.2.2.2.2.2]; simp only [h1, h2, h3]; simp)]; rfl), HB6.out⟩
        · go_wp2_with fail
          go_ret
          exact ⟨ret_int' (by rw [← HRR.out]; unfold lsErr; rw [HR.out, (show lsBad xs = true from by unfold lsBad neg0; rw [HX.out.1, HX.out.2.1, HX.out.2.2.1, HX.out.2.2.2.1, HX.out.2.2.2.2.1, HX.out.2.2.2.2.2.1, HX.out.2.2.2.2.2.2]; simp only [h1, h2]; simp)]; rfl), HB6.out⟩
      · go_wp2_with fail
        go_ret
        exact ⟨ret_int' (by rw [← HRR.out]; unfold lsErr; rw [HR.out, (show lsBad xs = true from by unfold lsBad neg0; rw [HX.out.1, HX.out.2.1, HX.out.2.2.1, HX.out.2.2.2.1, HX.out.2.2.2.2.1, HX.out.2.2.2.2.2.1, HX.out.2.2.2.2.2.2]; simp only [h1]; simp)]; rfl), HB6.out⟩
set_option maxRecDepth 100000 in
set_option maxHeartbeats 8000000 in
theorem ref_ListError (D : Array Value) (xs : List Nat) (hl : xs.length = 10) (hs : D.size = 10) (hD : ∀ k, k < 10 → D[k]? = some (.float .f32 (xs.getD k 0))) (W : World) : Calls Tryz.prog 70 #[.agg D] W fun e w' => e = .returned (.int .i64 (lsErr xs)) ∧ Below W.heap.size W w' := by
  have HD := Lib.hid (And.intro hl (And.intro hs hD))
  clear hl hs hD
  obtain ⟨R, hR⟩ : ∃ R : Int, lsErr xs = R := ⟨_, rfl⟩
  have HRR := Lib.hid hR
  rw [hR]
  clear hR
  cases hz : xs.all isNum
  · have HR := Lib.hid hz
    clear hz
    go_enter Tryz.func70, Tryz.ntmps70
    go_upto_region 1 with fail
    refine name_world ?_
    intro W1 hW1
    have X1 : Hid (Bx W1 W.heap.size 36 D) := Lib.hid (by rw [hW1]; exact Bx.new W _ D)
    have HW : Hid (Below W.heap.size W W1) := Lib.hid (by rw [hW1]; exact bnew (ob := .cells D 36) (Below.refl _ _))
    obtain ⟨p1, hp1⟩ : ∃ p, W.heap.size = p := ⟨_, rfl⟩
    rw [hp1] at X1 ⊢
    have HP1 := Lib.hid hp1
    clear hW1 hp1
    have BXK : ∀ w, Below W1.heap.size W1 w → Bx w p1 36 D := fun w h => X1.out.keep h
    refine wp_region_inv 13 (fun qz u' => if qz = 8 then True else if qz = 9 then True else if qz = 10 then True else u' = [(.pointer (some ⟨p1, 0, none⟩)), (.slice (some ⟨p1, 0, none⟩) 3 3), (.pointer (some ⟨p1, 3, none⟩)), (.slice (some ⟨p1, 3, none⟩) 3 3), (.pointer (some ⟨p1, 6, none⟩)), (.slice (some ⟨p1, 6, none⟩) 3 3), (.pointer (some ⟨p1, 9, none⟩)), (.float .f32 (xs.getD 9 0)), undef, undef, undef, (.bool false), (.bool true)].getD qz undef) (fun d vs w' => WN W1 xs 4 (d 9) (d 10) (vs 9) (vs 10) w' ∧ (d 8 = true → ∃ g1, vs 8 = .slice (some ⟨g1, 0, none⟩) 1 1 ∧ Bx w' g1 23 #[.float .f32 (xs.getD 9 0)])) (by kernel_rfl) (by kernel_rfl) ?_ ?_ ?_
    · intro vs
      exact ⟨WN.keep (w := W1) ⟨Below.refl _ _, fun e => (by cases e), fun e => (by cases e)⟩ ((Below.refl _ _).drew), fun e => (by cases e)⟩
    · intro iq oq hi ho
      rcases (by omega : iq = 0 ∨ iq = 1 ∨ iq = 2 ∨ iq = 3 ∨ iq = 4 ∨ iq = 5 ∨ iq = 6 ∨ iq = 7 ∨ iq = 8 ∨ iq = 9 ∨ iq = 10 ∨ iq = 11 ∨ iq = 12) with rfl | rfl | rfl | rfl | rfl | rfl | rfl | rfl | rfl | rfl | rfl | rfl | rfl
      all_goals simp only [List.getElem?_cons_zero, List.getElem?_cons_succ, Option.some.injEq] at ho
      all_goals subst ho
      all_goals intro d a0 wx hI hag hdep hun
      · have e0 := slot_eq (hag 1 rfl)
        exact inv_val (v := (.pointer (some ⟨p1, 0, none⟩))) (by simp [go_sem, e0]) (fun h => (by cases h)) rfl hI
      · have e0 := slot_eq (hdep ⟨0, .data⟩ (by simp) rfl).1
        exact inv_val (v := (.slice (some ⟨p1, 0, none⟩) 3 3)) (by simp [go_sem, e0]) (fun h => (by cases h)) rfl hI
      · have e0 := slot_eq (hag 1 rfl)
        exact inv_val (v := (.pointer (some ⟨p1, 3, none⟩))) (by simp [go_sem, e0]) (fun h => (by cases h)) rfl hI
      · have e0 := slot_eq (hdep ⟨2, .data⟩ (by simp) rfl).1
        exact inv_val (v := (.slice (some ⟨p1, 3, none⟩) 3 3)) (by simp [go_sem, e0]) (fun h => (by cases h)) rfl hI
      · have e0 := slot_eq (hag 1 rfl)
        exact inv_val (v := (.pointer (some ⟨p1, 6, none⟩))) (by simp [go_sem, e0]) (fun h => (by cases h)) rfl hI
      · have e0 := slot_eq (hdep ⟨4, .data⟩ (by simp) rfl).1
        exact inv_val (v := (.slice (some ⟨p1, 6, none⟩) 3 3)) (by simp [go_sem, e0]) (fun h => (by cases h)) rfl hI
      · have e0 := slot_eq (hag 1 rfl)
        exact inv_val (v := (.pointer (some ⟨p1, 9, none⟩))) (by simp [go_sem, e0]) (fun h => (by cases h)) rfl hI
      · have hq := (BXK wx hI.1.bel).all.1 9
        rw [HD.out.2.2 9 (by omega)] at hq
        have e0 := slot_eq (hdep ⟨6, .data⟩ (by simp) rfl).1
        exact inv_val (v := (.float .f32 (xs.getD 9 0))) (by simp [go_sem, e0, hq]) (fun h => (by cases h)) rfl hI
      · have e0 := slot_eq (hdep ⟨7, .data⟩ (by simp) rfl).1
        exact inv_val (v := .slice (some ⟨wx.heap.size, 0, none⟩) 1 1) (w' := wx.alloc (.cells #[.float .f32 (xs.getD 9 0)] 23)) (by simp [go_sem, e0]) (fun h => (by cases h)) trivial ⟨WN.keep hI.1 (bnew (Below.refl _ _)), fun _ => ⟨_, rfl, Bx.new _ _ _⟩⟩
      · have e0 := slot_eq (hdep ⟨1, .data⟩ (by simp) rfl).1
        have e1 := slot_eq (hdep ⟨3, .data⟩ (by simp) rfl).1
        have e2 := slot_eq (hdep ⟨5, .data⟩ (by simp) rfl).1
        obtain ⟨g1, hv1, hx1⟩ := hI.2 (hdep ⟨8, .data⟩ (by simp) rfl).2
        have e3 := slot_eq hv1
        have hb2 : Below wx.heap.size wx (wx.alloc (.cells #[(.slice (some ⟨p1, 0, none⟩) 3 3), (.slice (some ⟨p1, 3, none⟩) 3 3), (.slice (some ⟨p1, 6, none⟩) 3 3), .slice (some ⟨g1, 0, none⟩) 1 1] 37)) := bnew (Below.refl _ _)
        have hbx := BXK wx hI.1.bel
        have hrd : ∀ (q : Nat) (r : SlF), [⟨p1, 0, 3, [xs.getD 0 0, xs.getD 1 0, xs.getD 2 0]⟩, ⟨p1, 3, 3, [xs.getD 3 0, xs.getD 4 0, xs.getD 5 0]⟩, ⟨p1, 6, 3, [xs.getD 6 0, xs.getD 7 0, xs.getD 8 0]⟩, ⟨g1, 0, 1, [xs.getD 9 0]⟩][q]? = some r → r.g < wx.heap.size ∧ ∀ (j : Nat) (u : Value), (r.xs.map (Value.float .f32))[j]? = some u → wx.cell? ((⟨r.g, r.o, none⟩ : Addr).add j) = some u := by
          intro q r hr
          rcases (show q = 0 ∨ q = 1 ∨ q = 2 ∨ q = 3 from by have := (List.getElem?_eq_some_iff.1 hr).1; simp only [List.length_cons, List.length_nil] at this; omega) with rfl | rfl | rfl | rfl
          all_goals obtain rfl := Option.some.inj hr
          · exact rows_of hbx _ rfl (fun j hj => (match j, hj with | 0, _ => HD.out.2.2 0 (by omega) | 1, _ => HD.out.2.2 1 (by omega) | 2, _ => HD.out.2.2 2 (by omega)))
          · exact rows_of hbx _ rfl (fun j hj => (match j, hj with | 0, _ => HD.out.2.2 3 (by omega) | 1, _ => HD.out.2.2 4 (by omega) | 2, _ => HD.out.2.2 5 (by omega)))
          · exact rows_of hbx _ rfl (fun j hj => (match j, hj with | 0, _ => HD.out.2.2 6 (by omega) | 1, _ => HD.out.2.2 7 (by omega) | 2, _ => HD.out.2.2 8 (by omega)))
          · exact rows_of hx1 _ rfl (fun j hj => (match j, hj with | 0, _ => rfl))
        exact inv_val (v := .slice (some ⟨wx.heap.size, 0, none⟩) 4 4) (w' := wx.alloc (.cells #[(.slice (some ⟨p1, 0, none⟩) 3 3), (.slice (some ⟨p1, 3, none⟩) 3 3), (.slice (some ⟨p1, 6, none⟩) 3 3), .slice (some ⟨g1, 0, none⟩) 1 1] 37)) (by simp [go_sem, e0, e1, e2, e3]) (fun h => (by cases h)) trivial ⟨WN.set10 hI.1 [⟨p1, 0, 3, [xs.getD 0 0, xs.getD 1 0, xs.getD 2 0]⟩, ⟨p1, 3, 3, [xs.getD 3 0, xs.getD 4 0, xs.getD 5 0]⟩, ⟨p1, 6, 3, [xs.getD 6 0, xs.getD 7 0, xs.getD 8 0]⟩, ⟨g1, 0, 1, [xs.getD 9 0]⟩] rfl (flat10 HD.out.1 p1 g1) _ rfl hrd, fun e => (by obtain ⟨g2, f1, f2⟩ := hI.2 e; exact ⟨g2, f1, f2.keep hb2⟩)⟩
      · obtain ⟨gr, rows, hv1, hm, hfl, hbx, hrd⟩ := hI.1.b (hdep ⟨9, .data⟩ (by simp) rfl).2
        have e0 := slot_eq hv1
        refine inv_call (f := 77) (args := #[.slice (some ⟨gr, 0, none⟩) 4 4]) (run_go_call Tryz.func77 (by kernel_rfl) (by kernel_rfl) _ _ _ _ _ _ _ _ _ _ (by simp [Act.eval, e0])) (fun h => (by cases h)) ?_
        refine (slices_ConcatF rows 4 wx hbx hm (by omega) hrd (by rw [hfl]; have := HD.out.1; omega) (by rw [hfl]; have := HD.out.1; omega)).mono ?_
        rintro e w' ⟨u', rfl, ho2, hb2⟩
        rw [hfl] at ho2
        exact ⟨u', rfl, trivial, ⟨WN.set11 hI.1 ho2 hb2, fun e => (by obtain ⟨g2, f1, f2⟩ := hI.2 e; exact ⟨g2, f1, f2.keep hb2⟩)⟩⟩
      · have hc := hI.1.c (hdep ⟨10, .data⟩ (by simp) rfl).2
        obtain ⟨a1, n1, c1, hv1⟩ := hc.form
        rw [hv1] at hc
        have e1 := slot_eq hv1
        refine inv_call (f := 16) (args := #[.slice a1 n1 c1]) (run_go_call Tryz.func16 (by kernel_rfl) (by kernel_rfl) _ _ _ _ _ _ _ _ _ _ (by simp [Act.eval, e1])) (fun h => (by cases h)) ?_
        refine (ref_AllOwn xs _ _ wx hc (by have := HD.out.1; omega)).mono ?_
        rintro e w' ⟨rfl, hb2⟩
        rw [HR.out]
        exact ⟨_, rfl, rfl, ⟨WN.keep hI.1 hb2, fun e => (by obtain ⟨g2, f1, f2⟩ := hI.2 e; exact ⟨g2, f1, f2.keep hb2⟩)⟩⟩
      · have e0 := slot_eq (hdep ⟨11, .data⟩ (by simp) rfl).1
        exact inv_val (v := (.bool true)) (by simp [go_sem, e0]) (fun h => (by cases h)) rfl hI
    · intro d vs w6 hd hI hA
      have k0 : vs 0 = (.pointer (some ⟨p1, 0, none⟩)) := hA 0 (by omega)
      have k1 : vs 1 = (.slice (some ⟨p1, 0, none⟩) 3 3) := hA 1 (by omega)
      have k2 : vs 2 = (.pointer (some ⟨p1, 3, none⟩)) := hA 2 (by omega)
      have k3 : vs 3 = (.slice (some ⟨p1, 3, none⟩) 3 3) := hA 3 (by omega)
      have k4 : vs 4 = (.pointer (some ⟨p1, 6, none⟩)) := hA 4 (by omega)
      have k5 : vs 5 = (.slice (some ⟨p1, 6, none⟩) 3 3) := hA 5 (by omega)
      have k6 : vs 6 = (.pointer (some ⟨p1, 9, none⟩)) := hA 6 (by omega)
      have k7 : vs 7 = (.float .f32 (xs.getD 9 0)) := hA 7 (by omega)
      have k11 : vs 11 = (.bool false) := hA 11 (by omega)
      have k12 : vs 12 = (.bool true) := hA 12 (by omega)
      simp only [putAll, dstAt, List.getElem?_toArray, List.getElem?_cons_zero, List.getElem?_cons_succ, Option.bind_some, Option.bind_none, Act.put, List.setIfInBounds_toArray, List.set_cons_zero, List.set_cons_succ, k0, k1, k2, k3, k4, k5, k6, k7, k11, k12]
      have HB : Hid (Below W1.heap.size W1 w6) := Lib.hid hI.1.bel
      generalize vs 9 = ub at *
      generalize vs 10 = uc at *
      generalize vs 8 = ud at *
      clear hI hA hd k0 k1 k2 k3 k4 k5 k6 k7 k11 k12
      have BXK := Lib.hid BXK
      rw [← HP1.out]
      go_wp2_with fail
      go_ret
      exact ⟨ret_int' (by rw [← HRR.out]; unfold lsErr; rw [HR.out]; rfl), HW.out.trans (HB.out.mono (HW.out.size))⟩
  · have HR := Lib.hid hz
    clear hz
    go_enter Tryz.func70, Tryz.ntmps70
    go_upto_region 1 with fail
    refine name_world ?_
    intro W1 hW1
    have X1 : Hid (Bx W1 W.heap.size 36 D) := Lib.hid (by rw [hW1]; exact Bx.new W _ D)
    have HW : Hid (Below W.heap.size W W1) := Lib.hid (by rw [hW1]; exact bnew (ob := .cells D 36) (Below.refl _ _))
    obtain ⟨p1, hp1⟩ : ∃ p, W.heap.size = p := ⟨_, rfl⟩
    rw [hp1] at X1 ⊢
    have HP1 := Lib.hid hp1
    clear hW1 hp1
    have BXK : ∀ w, Below W1.heap.size W1 w → Bx w p1 36 D := fun w h => X1.out.keep h
    refine wp_region_inv 13 (fun qz u' => if qz = 8 then True else if qz = 9 then True else if qz = 10 then True else u' = [(.pointer (some ⟨p1, 0, none⟩)), (.slice (some ⟨p1, 0, none⟩) 3 3), (.pointer (some ⟨p1, 3, none⟩)), (.slice (some ⟨p1, 3, none⟩) 3 3), (.pointer (some ⟨p1, 6, none⟩)), (.slice (some ⟨p1, 6, none⟩) 3 3), (.pointer (some ⟨p1, 9, none⟩)), (.float .f32 (xs.getD 9 0)), undef, undef, undef, (.bool true), (.bool false)].getD qz undef) (fun d vs w' => WN W1 xs 4 (d 9) (d 10) (vs 9) (vs 10) w' ∧ (d 8 = true → ∃ g1, vs 8 = .slice (some ⟨g1, 0, none⟩) 1 1 ∧ Bx w' g1 23 #[.float .f32 (xs.getD 9 0)])) (by kernel_rfl) (by kernel_rfl) ?_ ?_ ?_
    · intro vs
      exact ⟨WN.keep (w := W1) ⟨Below.refl _ _, fun e => (by cases e), fun e => (by cases e)⟩ ((Below.refl _ _).drew), fun e => (by cases e)⟩
    · intro iq oq hi ho
      rcases (by omega : iq = 0 ∨ iq = 1 ∨ iq = 2 ∨ iq = 3 ∨ iq = 4 ∨ iq = 5 ∨ iq = 6 ∨ iq = 7 ∨ iq = 8 ∨ iq = 9 ∨ iq = 10 ∨ iq = 11 ∨ iq = 12) with rfl | rfl | rfl | rfl | rfl | rfl | rfl | rfl | rfl | rfl | rfl | rfl | rfl
      all_goals simp only [List.getElem?_cons_zero, List.getElem?_cons_succ, Option.some.injEq] at ho
      all_goals subst ho
      all_goals intro d a0 wx hI hag hdep hun
      · have e0 := slot_eq (hag 1 rfl)
        exact inv_val (v := (.pointer (some ⟨p1, 0, none⟩))) (by simp [go_sem, e0]) (fun h => (by cases h)) rfl hI
      · have e0 := slot_eq (hdep ⟨0, .data⟩ (by simp) rfl).1
        exact inv_val (v := (.slice (some ⟨p1, 0, none⟩) 3 3)) (by simp [go_sem, e0]) (fun h => (by cases h)) rfl hI
      · have e0 := slot_eq (hag 1 rfl)
        exact inv_val (v := (.pointer (some ⟨p1, 3, none⟩))) (by simp [go_sem, e0]) (fun h => (by cases h)) rfl hI
      · have e0 := slot_eq (hdep ⟨2, .data⟩ (by simp) rfl).1
        exact inv_val (v := (.slice (some ⟨p1, 3, none⟩) 3 3)) (by simp [go_sem, e0]) (fun h => (by cases h)) rfl hI
      · have e0 := slot_eq (hag 1 rfl)
        exact inv_val (v := (.pointer (some ⟨p1, 6, none⟩))) (by simp [go_sem, e0]) (fun h => (by cases h)) rfl hI
      · have e0 := slot_eq (hdep ⟨4, .data⟩ (by simp) rfl).1
        exact inv_val (v := (.slice (some ⟨p1, 6, none⟩) 3 3)) (by simp [go_sem, e0]) (fun h => (by cases h)) rfl hI
      · have e0 := slot_eq (hag 1 rfl)
        exact inv_val (v := (.pointer (some ⟨p1, 9, none⟩))) (by simp [go_sem, e0]) (fun h => (by cases h)) rfl hI
      · have hq := (BXK wx hI.1.bel).all.1 9
        rw [HD.out.2.2 9 (by omega)] at hq
        have e0 := slot_eq (hdep ⟨6, .data⟩ (by simp) rfl).1
        exact inv_val (v := (.float .f32 (xs.getD 9 0))) (by simp [go_sem, e0, hq]) (fun h => (by cases h)) rfl hI
      · have e0 := slot_eq (hdep ⟨7, .data⟩ (by simp) rfl).1
        exact inv_val (v := .slice (some ⟨wx.heap.size, 0, none⟩) 1 1) (w' := wx.alloc (.cells #[.float .f32 (xs.getD 9 0)] 23)) (by simp [go_sem, e0]) (fun h => (by cases h)) trivial ⟨WN.keep hI.1 (bnew (Below.refl _ _)), fun _ => ⟨_, rfl, Bx.new _ _ _⟩⟩
      · have e0 := slot_eq (hdep ⟨1, .data⟩ (by simp) rfl).1
        have e1 := slot_eq (hdep ⟨3, .data⟩ (by simp) rfl).1
        have e2 := slot_eq (hdep ⟨5, .data⟩ (by simp) rfl).1
        obtain ⟨g1, hv1, hx1⟩ := hI.2 (hdep ⟨8, .data⟩ (by simp) rfl).2
        have e3 := slot_eq hv1
        have hb2 : Below wx.heap.size wx (wx.alloc (.cells #[(.slice (some ⟨p1, 0, none⟩) 3 3), (.slice (some ⟨p1, 3, none⟩) 3 3), (.slice (some ⟨p1, 6, none⟩) 3 3), .slice (some ⟨g1, 0, none⟩) 1 1] 37)) := bnew (Below.refl _ _)
        have hbx := BXK wx hI.1.bel
        have hrd : ∀ (q : Nat) (r : SlF), [⟨p1, 0, 3, [xs.getD 0 0, xs.getD 1 0, xs.getD 2 0]⟩, ⟨p1, 3, 3, [xs.getD 3 0, xs.getD 4 0, xs.getD 5 0]⟩, ⟨p1, 6, 3, [xs.getD 6 0, xs.getD 7 0, xs.getD 8 0]⟩, ⟨g1, 0, 1, [xs.getD 9 0]⟩][q]? = some r → r.g < wx.heap.size ∧ ∀ (j : Nat) (u : Value), (r.xs.map (Value.float .f32))[j]? = some u → wx.cell? ((⟨r.g, r.o, none⟩ : Addr).add j) = some u := by
          intro q r hr
          rcases (show q = 0 ∨ q = 1 ∨ q = 2 ∨ q = 3 from by have := (List.getElem?_eq_some_iff.1 hr).1; simp only [List.length_cons, List.length_nil] at this; omega) with rfl | rfl | rfl | rfl
          all_goals obtain rfl := Option.some.inj hr
          · exact rows_of hbx _ rfl (fun j hj => (match j, hj with | 0, _ => HD.out.2.2 0 (by omega) | 1, _ => HD.out.2.2 1 (by omega) | 2, _ => HD.out.2.2 2 (by omega)))
          · exact rows_of hbx _ rfl (fun j hj => (match j, hj with | 0, _ => HD.out.2.2 3 (by omega) | 1, _ => HD.out.2.2 4 (by omega) | 2, _ => HD.out.2.2 5 (by omega)))
          · exact rows_of hbx _ rfl (fun j hj => (match j, hj with | 0, _ => HD.out.2.2 6 (by omega) | 1, _ => HD.out.2.2 7 (by omega) | 2, _ => HD.out.2.2 8 (by omega)))
          · exact rows_of hx1 _ rfl (fun j hj => (match j, hj with | 0, _ => rfl))
        exact inv_val (v := .slice (some ⟨wx.heap.size, 0, none⟩) 4 4) (w' := wx.alloc (.cells #[(.slice (some ⟨p1, 0, none⟩) 3 3), (.slice (some ⟨p1, 3, none⟩) 3 3), (.slice (some ⟨p1, 6, none⟩) 3 3), .slice (some ⟨g1, 0, none⟩) 1 1] 37)) (by simp [go_sem, e0, e1, e2, e3]) (fun h => (by cases h)) trivial ⟨WN.set10 hI.1 [⟨p1, 0, 3, [xs.getD 0 0, xs.getD 1 0, xs.getD 2 0]⟩, ⟨p1, 3, 3, [xs.getD 3 0, xs.getD 4 0, xs.getD 5 0]⟩, ⟨p1, 6, 3, [xs.getD 6 0, xs.getD 7 0, xs.getD 8 0]⟩, ⟨g1, 0, 1, [xs.getD 9 0]⟩] rfl (flat10 HD.out.1 p1 g1) _ rfl hrd, fun e => (by obtain ⟨g2, f1, f2⟩ := hI.2 e; exact ⟨g2, f1, f2.keep hb2⟩)⟩
      · obtain ⟨gr, rows, hv1, hm, hfl, hbx, hrd⟩ := hI.1.b (hdep ⟨9, .data⟩ (by simp) rfl).2
        have e0 := slot_eq hv1
        refine inv_call (f := 77) (args := #[.slice (some ⟨gr, 0, none⟩) 4 4]) (run_go_call Tryz.func77 (by kernel_rfl) (by kernel_rfl) _ _ _ _ _ _ _ _ _ _ (by simp [Act.eval, e0])) (fun h => (by cases h)) ?_
        refine (slices_ConcatF rows 4 wx hbx hm (by omega) hrd (by rw [hfl]; have := HD.out.1; omega) (by rw [hfl]; have := HD.out.1; omega)).mono ?_
        rintro e w' ⟨u', rfl, ho2, hb2⟩
        rw [hfl] at ho2
        exact ⟨u', rfl, trivial, ⟨WN.set11 hI.1 ho2 hb2, fun e => (by obtain ⟨g2, f1, f2⟩ := hI.2 e; exact ⟨g2, f1, f2.keep hb2⟩)⟩⟩
      · have hc := hI.1.c (hdep ⟨10, .data⟩ (by simp) rfl).2
        obtain ⟨a1, n1, c1, hv1⟩ := hc.form
        rw [hv1] at hc
        have e1 := slot_eq hv1
        refine inv_call (f := 16) (args := #[.slice a1 n1 c1]) (run_go_call Tryz.func16 (by kernel_rfl) (by kernel_rfl) _ _ _ _ _ _ _ _ _ _ (by simp [Act.eval, e1])) (fun h => (by cases h)) ?_
        refine (ref_AllOwn xs _ _ wx hc (by have := HD.out.1; omega)).mono ?_
        rintro e w' ⟨rfl, hb2⟩
        rw [HR.out]
        exact ⟨_, rfl, rfl, ⟨WN.keep hI.1 hb2, fun e => (by obtain ⟨g2, f1, f2⟩ := hI.2 e; exact ⟨g2, f1, f2.keep hb2⟩)⟩⟩
      · have e0 := slot_eq (hdep ⟨11, .data⟩ (by simp) rfl).1
        exact inv_val (v := (.bool false)) (by simp [go_sem, e0]) (fun h => (by cases h)) rfl hI
    · intro d vs w6 hd hI hA
      have k0 : vs 0 = (.pointer (some ⟨p1, 0, none⟩)) := hA 0 (by omega)
      have k1 : vs 1 = (.slice (some ⟨p1, 0, none⟩) 3 3) := hA 1 (by omega)
      have k2 : vs 2 = (.pointer (some ⟨p1, 3, none⟩)) := hA 2 (by omega)
      have k3 : vs 3 = (.slice (some ⟨p1, 3, none⟩) 3 3) := hA 3 (by omega)
      have k4 : vs 4 = (.pointer (some ⟨p1, 6, none⟩)) := hA 4 (by omega)
      have k5 : vs 5 = (.slice (some ⟨p1, 6, none⟩) 3 3) := hA 5 (by omega)
      have k6 : vs 6 = (.pointer (some ⟨p1, 9, none⟩)) := hA 6 (by omega)
      have k7 : vs 7 = (.float .f32 (xs.getD 9 0)) := hA 7 (by omega)
      have k11 : vs 11 = (.bool true) := hA 11 (by omega)
      have k12 : vs 12 = (.bool false) := hA 12 (by omega)
      simp only [putAll, dstAt, List.getElem?_toArray, List.getElem?_cons_zero, List.getElem?_cons_succ, Option.bind_some, Option.bind_none, Act.put, List.setIfInBounds_toArray, List.set_cons_zero, List.set_cons_succ, k0, k1, k2, k3, k4, k5, k6, k7, k11, k12]
      have HB : Hid (Below W1.heap.size W1 w6) := Lib.hid hI.1.bel
      generalize vs 9 = ub at *
      generalize vs 10 = uc at *
      generalize vs 8 = ud at *
      clear hI hA hd k0 k1 k2 k3 k4 k5 k6 k7 k11 k12
      have BXK := Lib.hid BXK
      rw [← HP1.out]
      have hE2 := HP1.out
      subst hE2
      have HB6 : Hid (Below W.heap.size W w6) := Lib.hid (HW.out.trans (HB.out.mono HW.out.size))
      have BX6 : Hid (∀ w, Below W.heap.size W w → Kq w6 w → Bx w W.heap.size 36 D) := Lib.hid (fun w _ h => (BXK.out w6 HB.out).keep h)
      go_wp2_with fail
      go_loopw [17] (fun i wr => ∃ k : Nat, k ≤ 3 ∧ i = .int .i64 (k : Int) ∧ Hid ((List.range k).any (lsB3 xs) = false) ∧ Below W.heap.size W wr ∧ Kq w6 wr) (fun i _ => 3 - (RowKit.intOf i).toNat)
      case atStart => exact ⟨0, by omega, rfl, Lib.hid rfl, HB6.out, Below.refl _ _⟩
      case round =>
        obtain ⟨k, hk, rfl, HA, hbl, hkq⟩ := hrel
        by_cases hlt : k < 3
        · have hd1 : decide ((k : Int) < 3) = true := decide_eq_true (by omega)
          have hxk := (BX6.out wr hbl hkq).all.1 k
          rw [HD.out.2.2 k (by omega)] at hxk
          have hyk := (BX6.out wr hbl hkq).all.1 (6 + k)
          rw [HD.out.2.2 (6 + k) (by omega)] at hyk
          have h1 : (List.range (k + 1)).any (lsB3 xs) = lsB3 xs k := by rw [List.range_succ, List.any_append, HA.out]; simp
          have h2 : lsB3 xs k = true → lsBad xs = true := fun h => by rw [lsBad_eq, (List.any_eq_true.2 ⟨k, List.mem_range.2 hlt, h⟩ : (List.range 3).any (lsB3 xs) = true)]; rfl
          obtain ⟨x, hx⟩ : ∃ x, xs.getD k 0 = x := ⟨_, rfl⟩
          obtain ⟨y, hy⟩ : ∃ y, xs.getD (6 + k) 0 = y := ⟨_, rfl⟩
          have h3 : lsB3 xs k = (neg0 x || badP y) := by unfold lsB3; rw [hx, hy]
          rw [hx] at hxk
          rw [hy] at hyk
          have H1 := Lib.hid (And.intro h1 (And.intro h2 h3))
          have HQ := Lib.hid (And.intro hbl hkq)
          clear h1 h2 h3 hx hy hbl hkq
          have z0 : (0 : Int) ≤ (k : Int) := by omega
          cases hz1 : (FloatKind.f32.format.order x 0 == some .lt)
          · cases hz2 : (FloatKind.f32.format.order y 1031798784 == some .lt)
            · cases hz3 : (FloatKind.f32.format.order y 1098907648 == some .gt)
              · have HB : Hid (lsB3 xs k = false) := Lib.hid (by rw [H1.out.2.2]; unfold neg0 badP; rw [hz1, hz2, hz3]; rfl)
                go_wp2_with fail
                go_roundw
                case rel => exact ⟨k + 1, by omega, by go_num, Lib.hid (by rw [H1.out.1, HB.out]), HQ.out.1, HQ.out.2⟩
                case measure => simp [RowKit.intOf]; omega
              · have HB : Hid (lsB3 xs k = true) := Lib.hid (by rw [H1.out.2.2]; unfold neg0 badP; rw [hz1, hz2, hz3]; rfl)
                go_wp2_with fail
                go_ret
                exact ⟨ret_int' (by rw [← HRR.out]; unfold lsErr; rw [HR.out, H1.out.2.1 HB.out]; rfl), HQ.out.1⟩
            · have HB : Hid (lsB3 xs k = true) := Lib.hid (by rw [H1.out.2.2]; unfold neg0 badP; rw [hz1, hz2]; rfl)
              go_wp2_with fail
              go_ret
              exact ⟨ret_int' (by rw [← HRR.out]; unfold lsErr; rw [HR.out, H1.out.2.1 HB.out]; rfl), HQ.out.1⟩
          · have HB : Hid (lsB3 xs k = true) := Lib.hid (by rw [H1.out.2.2]; unfold neg0; rw [hz1]; rfl)
            go_wp2_with fail
            go_ret
            exact ⟨ret_int' (by rw [← HRR.out]; unfold lsErr; rw [HR.out, H1.out.2.1 HB.out]; rfl), HQ.out.1⟩
        · obtain rfl : k = 3 := by omega
          have hq9 := (BX6.out wr hbl hkq).all.1 9
          rw [HD.out.2.2 9 (by omega)] at hq9
          obtain ⟨x9, hx9⟩ : ∃ x, xs.getD 9 0 = x := ⟨_, rfl⟩
          have h9 : lsBad xs = (neg0 x9 || (FloatKind.f32.format.order x9 1090519040 == some .gt)) := by rw [lsBad_eq, HA.out, hx9]; rfl
          rw [hx9] at hq9
          have H9 := Lib.hid (And.intro h9 hbl)
          clear h9 hx9 hbl hkq
          cases h5 : (FloatKind.f32.format.order x9 0 == some .lt)
          · cases h6 : (FloatKind.f32.format.order x9 1090519040 == some .gt)
            · go_wp2_with fail
              refine (ref_When _ _ _).mono ?_
              rintro e w8 ⟨rfl, rfl⟩
              go_wp2_with fail
              go_ret
              exact ⟨ret_int' (by rw [← HRR.out]; unfold lsErr; rw [HR.out, H9.out.1]; unfold neg0; rw [h5, h6]; rfl), H9.out.2⟩
            · go_wp2_with fail
              refine (ref_When _ _ _).mono ?_
              rintro e w8 ⟨rfl, rfl⟩
              go_wp2_with fail
              go_ret
              exact ⟨ret_int' (by rw [← HRR.out]; unfold lsErr; rw [HR.out, H9.out.1]; unfold neg0; rw [h5, h6]; rfl), H9.out.2⟩
          · go_wp2_with fail
            refine (ref_When _ _ _).mono ?_
            rintro e w8 ⟨rfl, rfl⟩
            go_wp2_with fail
            go_ret
            exact ⟨ret_int' (by rw [← HRR.out]; unfold lsErr; rw [HR.out, H9.out.1]; unfold neg0; rw [h5]; rfl), H9.out.2⟩
end Go.Proofs.YticekgnmiaidjaaGreatDoor
