/- grade.singles: pointers to all singles of a grade. (printed by gen_gnp.py) -/
import Derived.Test.YtpmbmpfkoffioaaGreatDoorGnO
namespace Go.Proofs.YtpmbmpfkoffioaaGreatDoor
open Go.RowKit Go.Lib

/-- The addresses of a slice's cells. -/
def ptrsV (v : Value) (n : Nat) : List Addr := if n = 0 then [] else match v with | .slice (some ad) _ _ => cellsP ad.block ad.off n | _ => []
def rows7 : List (Nat × Nat) := [(1, 3), (4, 3), (7, 3), (10, 3), (13, 3), (16, 3), (32, 12)]
def pre7 (pg k : Nat) : List Addr := (rows7.take k).flatMap fun r => cellsP pg r.1 r.2
def crv (C : Array Value) (g : Gd) (m : Nat) : List Addr := (List.range m).flatMap fun q => ptrsV (C[cvC q]?.getD undef) (cvV g q).length
/-- The addresses of all singles of a grade. -/
def ptrsG (pg : Nat) (C : Array Value) (g : Gd) : List Addr := pre7 pg 7 ++ crv C g 8 ++ [⟨pg, 19, none⟩, ⟨pg, 44, none⟩, ⟨pg, 45, none⟩]
theorem crv_succ (C : Array Value) (g : Gd) (m : Nat) : crv C g (m + 1) = crv C g m ++ ptrsV (C[cvC m]?.getD undef) (cvV g m).length := by
  unfold crv
  rw [List.range_succ, List.flatMap_append]
  simp
theorem cellsP_len (b o n : Nat) : (cellsP b o n).length = n := by unfold cellsP; simp
theorem ptrsV_len (v : Value) (n : Nat) : (ptrsV v n).length ≤ n := by
  unfold ptrsV
  split
  · simp
  · split
    · rw [cellsP_len]; omega
    · simp
theorem pre7_len (pg k : Nat) : (pre7 pg k).length ≤ 30 := by
  unfold pre7
  rcases (by omega : k = 0 ∨ k = 1 ∨ k = 2 ∨ k = 3 ∨ k = 4 ∨ k = 5 ∨ k = 6 ∨ 7 ≤ k) with rfl | rfl | rfl | rfl | rfl | rfl | rfl | h
  all_goals try (simp [rows7, cellsP_len]; done)
  rw [List.take_of_length_le (by simp [rows7]; omega)]
  simp [rows7, cellsP_len]
/-- The closure at any slice of singles. -/
theorem sg_any {w : World} {v : Value} {xs : List Nat} (hs : Sl w v xs) (W0 : World) (p : Nat) (W1 : World) (hp : W0.heap.size ≤ p) (L : List Addr) (u : Value) (w1 : World) (h : WsP W0 p W1 L u w1) (hL : L.length + xs.length ≤ 1000000) :
    Calls Tryz.prog 36 #[v, .pointer (some ⟨p, 0, none⟩)] w1 fun e w' => e = .returned (.tuple #[]) ∧ ∃ v', WsP W0 p W1 (L ++ ptrsV v xs.length) v' w' := by
  obtain ⟨a, c, rfl, hr⟩ := hs.dest
  rcases hr with h0 | ⟨b, o, rfl, _⟩
  · subst h0
    have e : ptrsV (.slice a ([] : List Nat).length c) ([] : List Nat).length = [] := rfl
    rw [e, List.append_nil]
    exact sg_none a c W0 p W1 L u w1 h
  · have e : ptrsV (.slice (some ⟨b, o, none⟩) xs.length c) xs.length = cellsP b o xs.length := by
      unfold ptrsV
      split
      · rename_i h0; rw [h0]; rfl
      · rfl
    rw [e]
    exact sg_add b o c xs.length W0 p W1 hp L u w1 h hL
set_option maxRecDepth 100000 in
set_option maxHeartbeats 32000000 in
theorem grade_singles (pg : Nat) (C : Array Value) (g : Gd) (W : World) (hx : Bx W pg 37 C) (hG : GdAt W C g) (hlen : ∀ q, (cvV g q).length ≤ 1000) : Calls Tryz.prog 12 #[.pointer (some ⟨pg, 0, none⟩)] W fun e w' => ∃ v, e = .returned v ∧ OwnPt W.heap.size w' v (ptrsG pg C g) ∧ Below W.heap.size W w' := by
  have HG := Lib.hid (And.intro hG hlen)
  have X0 := Lib.hid hx
  have HCV : Hid (∀ q, q < 8 → ∃ v, C[cvC q]? = some v ∧ Sl W v (cvV g q)) := Lib.hid (fun q hq => by
    obtain ⟨c, hc⟩ : ∃ c, g.cvs[q / 2]? = some c := ⟨_, List.getElem?_eq_getElem (by have := hG.cvs.1; omega)⟩
    obtain ⟨_, ⟨vx, b, s⟩, vy, d, s2⟩ := hG.cvs.2 (q / 2) c hc
    have hcv := cvV_x hc
    rcases (by omega : q = 2 * (q / 2) ∨ q = 2 * (q / 2) + 1) with h | h
    · refine ⟨vx, ?_, ?_⟩
      · rw [show cvC q = 21 + 3 * (q / 2) by unfold cvC; omega]; exact b
      · rw [h, hcv.1]; exact s
    · refine ⟨vy, ?_, ?_⟩
      · rw [show cvC q = 22 + 3 * (q / 2) by unfold cvC; omega]; exact d
      · rw [h, hcv.2]; exact s2)
  clear hG hlen hx
  go_enter Tryz.func12, Tryz.ntmps12
  go_upto_region 3 with fail
  refine name_world ?_
  intro W2 hW2
  have X3 : Hid (Bx W2 W.heap.size 50 #[.slice none 0 0]) := Lib.hid (by rw [hW2]; exact Bx.new _ _ _)
  have HW2 : Hid (Below W.heap.size W W2) := Lib.hid (by rw [hW2]; exact bnew (Below.refl _ _))
  obtain ⟨p3, hp3⟩ : ∃ p, W.heap.size = p := ⟨_, rfl⟩
  rw [hp3] at X3
  try rw [hp3]
  have HP : Hid (W.heap.size ≤ p3) := Lib.hid (Nat.le_of_eq hp3)
  clear hW2 hp3
  refine wp_region_inv 38 (fun qz u' => if qz = 35 then True else u' = [(.pointer (some ⟨pg, 0, none⟩)), (.pointer (some ⟨pg, 0, none⟩)), (.pointer (some ⟨pg, 1, none⟩)), (.pointer (some ⟨pg, 1, none⟩)), (.slice (some ⟨pg, 1, none⟩) 3 3), (.pointer (some ⟨pg, 0, none⟩)), (.pointer (some ⟨pg, 0, none⟩)), (.pointer (some ⟨pg, 1, none⟩)), (.pointer (some ⟨pg, 4, none⟩)), (.slice (some ⟨pg, 4, none⟩) 3 3), (.pointer (some ⟨pg, 0, none⟩)), (.pointer (some ⟨pg, 0, none⟩)), (.pointer (some ⟨pg, 1, none⟩)), (.pointer (some ⟨pg, 7, none⟩)), (.slice (some ⟨pg, 7, none⟩) 3 3), (.pointer (some ⟨pg, 0, none⟩)), (.pointer (some ⟨pg, 0, none⟩)), (.pointer (some ⟨pg, 10, none⟩)), (.pointer (some ⟨pg, 10, none⟩)), (.slice (some ⟨pg, 10, none⟩) 3 3), (.pointer (some ⟨pg, 0, none⟩)), (.pointer (some ⟨pg, 0, none⟩)), (.pointer (some ⟨pg, 10, none⟩)), (.pointer (some ⟨pg, 13, none⟩)), (.slice (some ⟨pg, 13, none⟩) 3 3), (.pointer (some ⟨pg, 0, none⟩)), (.pointer (some ⟨pg, 0, none⟩)), (.pointer (some ⟨pg, 10, none⟩)), (.pointer (some ⟨pg, 16, none⟩)), (.slice (some ⟨pg, 16, none⟩) 3 3), (.pointer (some ⟨pg, 0, none⟩)), (.pointer (some ⟨pg, 0, none⟩)), (.pointer (some ⟨pg, 32, none⟩)), (.pointer (some ⟨pg, 32, none⟩)), (.slice (some ⟨pg, 32, none⟩) 12 12), undef, (.int .i64 7), (.int .i64 0)].getD qz undef) (fun d vs w' => Below W2.heap.size W2 w' ∧ (d 35 = true → ∃ gn, vs 35 = .slice (some ⟨gn, 0, none⟩) 7 7 ∧ Bx w' gn 28 #[(.slice (some ⟨pg, 1, none⟩) 3 3), (.slice (some ⟨pg, 4, none⟩) 3 3), (.slice (some ⟨pg, 7, none⟩) 3 3), (.slice (some ⟨pg, 10, none⟩) 3 3), (.slice (some ⟨pg, 13, none⟩) 3 3), (.slice (some ⟨pg, 16, none⟩) 3 3), (.slice (some ⟨pg, 32, none⟩) 12 12)])) (by kernel_rfl) (by kernel_rfl) ?_ ?_ ?_
  · intro vs
    exact ⟨(Below.refl _ _).drew, fun e => (by cases e)⟩
  · intro iq oq hi ho
    rcases (by omega : iq = 0 ∨ iq = 1 ∨ iq = 2 ∨ iq = 3 ∨ iq = 4 ∨ iq = 5 ∨ iq = 6 ∨ iq = 7 ∨ iq = 8 ∨ iq = 9 ∨ iq = 10 ∨ iq = 11 ∨ iq = 12 ∨ iq = 13 ∨ iq = 14 ∨ iq = 15 ∨ iq = 16 ∨ iq = 17 ∨ iq = 18 ∨ iq = 19 ∨ iq = 20 ∨ iq = 21 ∨ iq = 22 ∨ iq = 23 ∨ iq = 24 ∨ iq = 25 ∨ iq = 26 ∨ iq = 27 ∨ iq = 28 ∨ iq = 29 ∨ iq = 30 ∨ iq = 31 ∨ iq = 32 ∨ iq = 33 ∨ iq = 34 ∨ iq = 35 ∨ iq = 36 ∨ iq = 37) with rfl | rfl | rfl | rfl | rfl | rfl | rfl | rfl | rfl | rfl | rfl | rfl | rfl | rfl | rfl | rfl | rfl | rfl | rfl | rfl | rfl | rfl | rfl | rfl | rfl | rfl | rfl | rfl | rfl | rfl | rfl | rfl | rfl | rfl | rfl | rfl | rfl | rfl
    all_goals simp only [List.getElem?_cons_zero, List.getElem?_cons_succ, Option.some.injEq] at ho
    all_goals subst ho
    all_goals intro d a0 wx hI hag hdep hun
    · have e0 := slot_eq (hag 0 rfl)
      exact inv_val (v := (.pointer (some ⟨pg, 0, none⟩))) (by simp [go_sem, e0]) (fun h => (by cases h)) rfl hI
    · have e0 := slot_eq (hdep ⟨0, .data⟩ (by simp) rfl).1
      exact inv_val (v := (.pointer (some ⟨pg, 0, none⟩))) (by simp [go_sem, e0]) (fun h => (by cases h)) rfl hI
    · have e0 := slot_eq (hdep ⟨1, .data⟩ (by simp) rfl).1
      exact inv_val (v := (.pointer (some ⟨pg, 1, none⟩))) (by simp [go_sem, e0]) (fun h => (by cases h)) rfl hI
    · have e0 := slot_eq (hdep ⟨2, .data⟩ (by simp) rfl).1
      exact inv_val (v := (.pointer (some ⟨pg, 1, none⟩))) (by simp [go_sem, e0]) (fun h => (by cases h)) rfl hI
    · have e0 := slot_eq (hdep ⟨3, .data⟩ (by simp) rfl).1
      exact inv_val (v := (.slice (some ⟨pg, 1, none⟩) 3 3)) (by simp [go_sem, e0]) (fun h => (by cases h)) rfl hI
    · have e0 := slot_eq (hag 0 rfl)
      exact inv_val (v := (.pointer (some ⟨pg, 0, none⟩))) (by simp [go_sem, e0]) (fun h => (by cases h)) rfl hI
    · have e0 := slot_eq (hdep ⟨5, .data⟩ (by simp) rfl).1
      exact inv_val (v := (.pointer (some ⟨pg, 0, none⟩))) (by simp [go_sem, e0]) (fun h => (by cases h)) rfl hI
    · have e0 := slot_eq (hdep ⟨6, .data⟩ (by simp) rfl).1
      exact inv_val (v := (.pointer (some ⟨pg, 1, none⟩))) (by simp [go_sem, e0]) (fun h => (by cases h)) rfl hI
    · have e0 := slot_eq (hdep ⟨7, .data⟩ (by simp) rfl).1
      exact inv_val (v := (.pointer (some ⟨pg, 4, none⟩))) (by simp [go_sem, e0]) (fun h => (by cases h)) rfl hI
    · have e0 := slot_eq (hdep ⟨8, .data⟩ (by simp) rfl).1
      exact inv_val (v := (.slice (some ⟨pg, 4, none⟩) 3 3)) (by simp [go_sem, e0]) (fun h => (by cases h)) rfl hI
    · have e0 := slot_eq (hag 0 rfl)
      exact inv_val (v := (.pointer (some ⟨pg, 0, none⟩))) (by simp [go_sem, e0]) (fun h => (by cases h)) rfl hI
    · have e0 := slot_eq (hdep ⟨10, .data⟩ (by simp) rfl).1
      exact inv_val (v := (.pointer (some ⟨pg, 0, none⟩))) (by simp [go_sem, e0]) (fun h => (by cases h)) rfl hI
    · have e0 := slot_eq (hdep ⟨11, .data⟩ (by simp) rfl).1
      exact inv_val (v := (.pointer (some ⟨pg, 1, none⟩))) (by simp [go_sem, e0]) (fun h => (by cases h)) rfl hI
    · have e0 := slot_eq (hdep ⟨12, .data⟩ (by simp) rfl).1
      exact inv_val (v := (.pointer (some ⟨pg, 7, none⟩))) (by simp [go_sem, e0]) (fun h => (by cases h)) rfl hI
    · have e0 := slot_eq (hdep ⟨13, .data⟩ (by simp) rfl).1
      exact inv_val (v := (.slice (some ⟨pg, 7, none⟩) 3 3)) (by simp [go_sem, e0]) (fun h => (by cases h)) rfl hI
    · have e0 := slot_eq (hag 0 rfl)
      exact inv_val (v := (.pointer (some ⟨pg, 0, none⟩))) (by simp [go_sem, e0]) (fun h => (by cases h)) rfl hI
    · have e0 := slot_eq (hdep ⟨15, .data⟩ (by simp) rfl).1
      exact inv_val (v := (.pointer (some ⟨pg, 0, none⟩))) (by simp [go_sem, e0]) (fun h => (by cases h)) rfl hI
    · have e0 := slot_eq (hdep ⟨16, .data⟩ (by simp) rfl).1
      exact inv_val (v := (.pointer (some ⟨pg, 10, none⟩))) (by simp [go_sem, e0]) (fun h => (by cases h)) rfl hI
    · have e0 := slot_eq (hdep ⟨17, .data⟩ (by simp) rfl).1
      exact inv_val (v := (.pointer (some ⟨pg, 10, none⟩))) (by simp [go_sem, e0]) (fun h => (by cases h)) rfl hI
    · have e0 := slot_eq (hdep ⟨18, .data⟩ (by simp) rfl).1
      exact inv_val (v := (.slice (some ⟨pg, 10, none⟩) 3 3)) (by simp [go_sem, e0]) (fun h => (by cases h)) rfl hI
    · have e0 := slot_eq (hag 0 rfl)
      exact inv_val (v := (.pointer (some ⟨pg, 0, none⟩))) (by simp [go_sem, e0]) (fun h => (by cases h)) rfl hI
    · have e0 := slot_eq (hdep ⟨20, .data⟩ (by simp) rfl).1
      exact inv_val (v := (.pointer (some ⟨pg, 0, none⟩))) (by simp [go_sem, e0]) (fun h => (by cases h)) rfl hI
    · have e0 := slot_eq (hdep ⟨21, .data⟩ (by simp) rfl).1
      exact inv_val (v := (.pointer (some ⟨pg, 10, none⟩))) (by simp [go_sem, e0]) (fun h => (by cases h)) rfl hI
    · have e0 := slot_eq (hdep ⟨22, .data⟩ (by simp) rfl).1
      exact inv_val (v := (.pointer (some ⟨pg, 13, none⟩))) (by simp [go_sem, e0]) (fun h => (by cases h)) rfl hI
    · have e0 := slot_eq (hdep ⟨23, .data⟩ (by simp) rfl).1
      exact inv_val (v := (.slice (some ⟨pg, 13, none⟩) 3 3)) (by simp [go_sem, e0]) (fun h => (by cases h)) rfl hI
    · have e0 := slot_eq (hag 0 rfl)
      exact inv_val (v := (.pointer (some ⟨pg, 0, none⟩))) (by simp [go_sem, e0]) (fun h => (by cases h)) rfl hI
    · have e0 := slot_eq (hdep ⟨25, .data⟩ (by simp) rfl).1
      exact inv_val (v := (.pointer (some ⟨pg, 0, none⟩))) (by simp [go_sem, e0]) (fun h => (by cases h)) rfl hI
    · have e0 := slot_eq (hdep ⟨26, .data⟩ (by simp) rfl).1
      exact inv_val (v := (.pointer (some ⟨pg, 10, none⟩))) (by simp [go_sem, e0]) (fun h => (by cases h)) rfl hI
    · have e0 := slot_eq (hdep ⟨27, .data⟩ (by simp) rfl).1
      exact inv_val (v := (.pointer (some ⟨pg, 16, none⟩))) (by simp [go_sem, e0]) (fun h => (by cases h)) rfl hI
    · have e0 := slot_eq (hdep ⟨28, .data⟩ (by simp) rfl).1
      exact inv_val (v := (.slice (some ⟨pg, 16, none⟩) 3 3)) (by simp [go_sem, e0]) (fun h => (by cases h)) rfl hI
    · have e0 := slot_eq (hag 0 rfl)
      exact inv_val (v := (.pointer (some ⟨pg, 0, none⟩))) (by simp [go_sem, e0]) (fun h => (by cases h)) rfl hI
    · have e0 := slot_eq (hdep ⟨30, .data⟩ (by simp) rfl).1
      exact inv_val (v := (.pointer (some ⟨pg, 0, none⟩))) (by simp [go_sem, e0]) (fun h => (by cases h)) rfl hI
    · have e0 := slot_eq (hdep ⟨31, .data⟩ (by simp) rfl).1
      exact inv_val (v := (.pointer (some ⟨pg, 32, none⟩))) (by simp [go_sem, e0]) (fun h => (by cases h)) rfl hI
    · have e0 := slot_eq (hdep ⟨32, .data⟩ (by simp) rfl).1
      exact inv_val (v := (.pointer (some ⟨pg, 32, none⟩))) (by simp [go_sem, e0]) (fun h => (by cases h)) rfl hI
    · have e0 := slot_eq (hdep ⟨33, .data⟩ (by simp) rfl).1
      exact inv_val (v := (.slice (some ⟨pg, 32, none⟩) 12 12)) (by simp [go_sem, e0]) (fun h => (by cases h)) rfl hI
    · have e0 := slot_eq (hdep ⟨4, .data⟩ (by simp) rfl).1
      have e1 := slot_eq (hdep ⟨9, .data⟩ (by simp) rfl).1
      have e2 := slot_eq (hdep ⟨14, .data⟩ (by simp) rfl).1
      have e3 := slot_eq (hdep ⟨19, .data⟩ (by simp) rfl).1
      have e4 := slot_eq (hdep ⟨24, .data⟩ (by simp) rfl).1
      have e5 := slot_eq (hdep ⟨29, .data⟩ (by simp) rfl).1
      have e6 := slot_eq (hdep ⟨34, .data⟩ (by simp) rfl).1
      exact inv_val (v := .slice (some ⟨wx.heap.size, 0, none⟩) 7 7) (w' := wx.alloc (.cells #[(.slice (some ⟨pg, 1, none⟩) 3 3), (.slice (some ⟨pg, 4, none⟩) 3 3), (.slice (some ⟨pg, 7, none⟩) 3 3), (.slice (some ⟨pg, 10, none⟩) 3 3), (.slice (some ⟨pg, 13, none⟩) 3 3), (.slice (some ⟨pg, 16, none⟩) 3 3), (.slice (some ⟨pg, 32, none⟩) 12 12)] 28)) (by simp [go_sem, e0, e1, e2, e3, e4, e5, e6]) (fun h => (by cases h)) trivial ⟨bcall hI.1 (bnew (Below.refl _ _)), fun _ => ⟨_, rfl, Bx.new _ _ _⟩⟩
    · obtain ⟨gn, hv, _⟩ := hI.2 (hdep ⟨35, .data⟩ (by simp) rfl).2
      have e0 := slot_eq hv
      exact inv_val (v := .int .i64 7) (by simp [go_sem, e0]) (fun h => (by cases h)) rfl hI
    · exact inv_val (v := .int .i64 0) (by simp [go_sem]) (fun h => (by cases h)) rfl hI
  · intro d vs W6 hd hI hA
    have k0 : vs 0 = (.pointer (some ⟨pg, 0, none⟩)) := hA 0 (by omega)
    have k1 : vs 1 = (.pointer (some ⟨pg, 0, none⟩)) := hA 1 (by omega)
    have k2 : vs 2 = (.pointer (some ⟨pg, 1, none⟩)) := hA 2 (by omega)
    have k3 : vs 3 = (.pointer (some ⟨pg, 1, none⟩)) := hA 3 (by omega)
    have k4 : vs 4 = (.slice (some ⟨pg, 1, none⟩) 3 3) := hA 4 (by omega)
    have k5 : vs 5 = (.pointer (some ⟨pg, 0, none⟩)) := hA 5 (by omega)
    have k6 : vs 6 = (.pointer (some ⟨pg, 0, none⟩)) := hA 6 (by omega)
    have k7 : vs 7 = (.pointer (some ⟨pg, 1, none⟩)) := hA 7 (by omega)
    have k8 : vs 8 = (.pointer (some ⟨pg, 4, none⟩)) := hA 8 (by omega)
    have k9 : vs 9 = (.slice (some ⟨pg, 4, none⟩) 3 3) := hA 9 (by omega)
    have k10 : vs 10 = (.pointer (some ⟨pg, 0, none⟩)) := hA 10 (by omega)
    have k11 : vs 11 = (.pointer (some ⟨pg, 0, none⟩)) := hA 11 (by omega)
    have k12 : vs 12 = (.pointer (some ⟨pg, 1, none⟩)) := hA 12 (by omega)
    have k13 : vs 13 = (.pointer (some ⟨pg, 7, none⟩)) := hA 13 (by omega)
    have k14 : vs 14 = (.slice (some ⟨pg, 7, none⟩) 3 3) := hA 14 (by omega)
    have k15 : vs 15 = (.pointer (some ⟨pg, 0, none⟩)) := hA 15 (by omega)
    have k16 : vs 16 = (.pointer (some ⟨pg, 0, none⟩)) := hA 16 (by omega)
    have k17 : vs 17 = (.pointer (some ⟨pg, 10, none⟩)) := hA 17 (by omega)
    have k18 : vs 18 = (.pointer (some ⟨pg, 10, none⟩)) := hA 18 (by omega)
    have k19 : vs 19 = (.slice (some ⟨pg, 10, none⟩) 3 3) := hA 19 (by omega)
    have k20 : vs 20 = (.pointer (some ⟨pg, 0, none⟩)) := hA 20 (by omega)
    have k21 : vs 21 = (.pointer (some ⟨pg, 0, none⟩)) := hA 21 (by omega)
    have k22 : vs 22 = (.pointer (some ⟨pg, 10, none⟩)) := hA 22 (by omega)
    have k23 : vs 23 = (.pointer (some ⟨pg, 13, none⟩)) := hA 23 (by omega)
    have k24 : vs 24 = (.slice (some ⟨pg, 13, none⟩) 3 3) := hA 24 (by omega)
    have k25 : vs 25 = (.pointer (some ⟨pg, 0, none⟩)) := hA 25 (by omega)
    have k26 : vs 26 = (.pointer (some ⟨pg, 0, none⟩)) := hA 26 (by omega)
    have k27 : vs 27 = (.pointer (some ⟨pg, 10, none⟩)) := hA 27 (by omega)
    have k28 : vs 28 = (.pointer (some ⟨pg, 16, none⟩)) := hA 28 (by omega)
    have k29 : vs 29 = (.slice (some ⟨pg, 16, none⟩) 3 3) := hA 29 (by omega)
    have k30 : vs 30 = (.pointer (some ⟨pg, 0, none⟩)) := hA 30 (by omega)
    have k31 : vs 31 = (.pointer (some ⟨pg, 0, none⟩)) := hA 31 (by omega)
    have k32 : vs 32 = (.pointer (some ⟨pg, 32, none⟩)) := hA 32 (by omega)
    have k33 : vs 33 = (.pointer (some ⟨pg, 32, none⟩)) := hA 33 (by omega)
    have k34 : vs 34 = (.slice (some ⟨pg, 32, none⟩) 12 12) := hA 34 (by omega)
    have k36 : vs 36 = (.int .i64 7) := hA 36 (by omega)
    have k37 : vs 37 = (.int .i64 0) := hA 37 (by omega)
    simp only [putAll, dstAt, List.getElem?_toArray, List.getElem?_cons_zero, List.getElem?_cons_succ, Option.bind_some, Option.bind_none, Act.put, List.setIfInBounds_toArray, List.set_cons_zero, List.set_cons_succ, k0, k1, k2, k3, k4, k5, k6, k7, k8, k9, k10, k11, k12, k13, k14, k15, k16, k17, k18, k19, k20, k21, k22, k23, k24, k25, k26, k27, k28, k29, k30, k31, k32, k33, k34, k36, k37]
    obtain ⟨gb, hgb, xgb⟩ := hI.2 (hd 35 (by omega))
    rw [hgb]
    have XG := Lib.hid xgb
    have HW6 : Hid (Below W.heap.size W W6) := Lib.hid (bcall HW2.out hI.1)
    have HS0 : Hid (WsP W p3 W6 [] (.slice none 0 0) W6) := Lib.hid ⟨HW6.out, KpP.refl _, X3.out.keep hI.1, ⟨rfl, .inl ⟨rfl, rfl⟩⟩⟩
    clear hI hA hd k0 k1 k2 k3 k4 k5 k6 k7 k8 k9 k10 k11 k12 k13 k14 k15 k16 k17 k18 k19 k20 k21 k22 k23 k24 k25 k26 k27 k28 k29 k30 k31 k32 k33 k34 k36 k37 hgb xgb
    go_wp2_with fail
    go_loopw [46] (fun i wr => ∃ (k : Nat) (u : Value), k ≤ 7 ∧ i = .int .i64 (k : Int) ∧ Hid (WsP W p3 W6 (pre7 pg k) u wr)) (fun i _ => 7 - (RowKit.intOf i).toNat)
    case atStart => exact ⟨0, _, by omega, rfl, HS0⟩
    case round =>
      obtain ⟨k, u, hk, rfl, HI⟩ := hrel
      by_cases hlk : k < 7
      · obtain ⟨r, hr⟩ : ∃ r, rows7[k]? = some r := ⟨_, List.getElem?_eq_getElem (by show k < 7; exact hlk)⟩
        have hq : wr.cell? ⟨gb, k, none⟩ = some (.slice (some ⟨pg, r.1, none⟩) r.2 r.2) := by
          rw [(HI.out.2.1.bx XG.out (by decide) (by decide)).all.1]
          rcases (by omega : k = 0 ∨ k = 1 ∨ k = 2 ∨ k = 3 ∨ k = 4 ∨ k = 5 ∨ k = 6) with rfl | rfl | rfl | rfl | rfl | rfl | rfl <;> (obtain rfl := Option.some.inj hr; rfl)
        have hr2 : r.2 ≤ 12 := by
          rcases (by omega : k = 0 ∨ k = 1 ∨ k = 2 ∨ k = 3 ∨ k = 4 ∨ k = 5 ∨ k = 6) with rfl | rfl | rfl | rfl | rfl | rfl | rfl <;> (obtain rfl := Option.some.inj hr; decide)
        have HN : Hid (pre7 pg (k + 1) = pre7 pg k ++ cellsP pg r.1 r.2) := Lib.hid (by
          unfold pre7
          rw [List.take_add_one, hr, List.flatMap_append]
          simp)
        obtain ⟨r1, hr1⟩ : ∃ n, r.1 = n := ⟨_, rfl⟩
        obtain ⟨r2, hr22⟩ : ∃ n, r.2 = n := ⟨_, rfl⟩
        rw [hr1, hr22] at hq HN
        rw [hr22] at hr2
        have HK := Lib.hid (And.intro hlk hr2)
        have hd1 : decide ((k : Int) < 7) = true := decide_eq_true (by omega)
        clear hr hr2 hr1 hr22
        go_wp2_with fail
        refine (sg_add pg r1 r2 r2 W p3 W6 HP.out (pre7 pg k) u wr HI.out (by have := pre7_len pg k; have := HK.out.2; omega)).mono ?_
        rintro e w7 ⟨rfl, u', hu'⟩
        have HU := Lib.hid hu'
        clear hu' hq hd1 hlk
        have hk7 : k < 7 := HK.out.1
        go_wp2_with fail
        go_roundw
        case rel => exact ⟨k + 1, u', by omega, by go_num, Lib.hid (by rw [HN.out]; exact HU.out)⟩
        case measure => simp [RowKit.intOf]; omega
      · obtain rfl : k = 7 := by omega
        rw [show ((7 : Nat) : Int) = 7 from rfl]
        go_wp2_with fail
        go_loopw [54] (fun i wr2 => ∃ (j : Nat) (us : Value), j ≤ 4 ∧ i = .int .i64 (j : Int) ∧ Hid (WsP W p3 W6 (pre7 pg 7 ++ crv C g (2 * j)) us wr2)) (fun i _ => 4 - (RowKit.intOf i).toNat)
        case atStart => exact ⟨0, u, by omega, rfl, Lib.hid (by rw [show crv C g (2 * 0) = [] from rfl, List.append_nil]; exact HI.out)⟩
        case round =>
          obtain ⟨j, us, hj, rfl, HI2⟩ := hrel
          have HML : Hid (∀ m, m ≤ 8 → (pre7 pg 7 ++ crv C g m).length ≤ 30 + m * 1000) := Lib.hid (fun m hm => by
            rw [List.length_append]
            have h1 := pre7_len pg 7
            have h2 : ∀ m, (crv C g m).length ≤ m * 1000 := by
              intro m
              induction m with
              | zero => exact Nat.zero_le _
              | succ m ih =>
                rw [crv_succ, List.length_append]
                have := ptrsV_len (C[cvC m]?.getD undef) (cvV g m).length
                have := HG.out.2 m
                omega
            have := h2 m
            omega)
          have XGR := HI2.out.2.1.bx (X0.out.keep HW6.out) (by decide) (by decide)
          by_cases hlj : j < 4
          · obtain ⟨vx, hvx, slx⟩ := HCV.out (2 * j) (by omega)
            obtain ⟨vy, hvy, sly⟩ := HCV.out (2 * j + 1) (by omega)
            have qx : wr.cell? ⟨pg, 20 + j * 3 + 1, none⟩ = some vx := by rw [XGR.all.1, ← hvx]; congr 1; unfold cvC; omega
            have HX := Lib.hid (And.intro hvx slx)
            have HY := Lib.hid (And.intro hvy sly)
            obtain ⟨xa, xn, xc, ex⟩ := slx.form
            obtain ⟨ya, yn, yc, ey⟩ := sly.form
            subst ex ey
            have hd1 : decide ((j : Int) < 4) = true := decide_eq_true (by omega)
            have z1 : (j : Int) < 4 := by omega
            clear hvx hvy slx sly XGR
            go_wp2_with fail
            refine (sg_any HX.out.2 W p3 W6 HP.out _ us wr HI2.out (by have := HML.out (2 * j) (by omega); have := HG.out.2 (2 * j); omega)).mono ?_
            rintro e w7 ⟨rfl, ut, hut⟩
            have HUT : Hid (WsP W p3 W6 (pre7 pg 7 ++ crv C g (2 * j + 1)) ut w7) := Lib.hid (by rw [crv_succ, HX.out.1, ← List.append_assoc]; exact hut)
            have qy : w7.cell? ⟨pg, 20 + j * 3 + 2, none⟩ = some (.slice ya yn yc) := by rw [(HUT.out.2.1.bx (X0.out.keep HW6.out) (by decide) (by decide)).all.1, ← HY.out.1]; congr 1; unfold cvC; omega
            clear hut qx
            go_wp2_with fail
            refine (sg_any HY.out.2 W p3 W6 HP.out _ ut w7 HUT.out (by have := HML.out (2 * j + 1) (by omega); have := HG.out.2 (2 * j + 1); omega)).mono ?_
            rintro e w8 ⟨rfl, uv, huv⟩
            have HUV : Hid (WsP W p3 W6 (pre7 pg 7 ++ crv C g (2 * (j + 1))) uv w8) := Lib.hid (by rw [show 2 * (j + 1) = 2 * j + 1 + 1 by omega, crv_succ, HY.out.1, ← List.append_assoc]; exact huv)
            have HK2 := Lib.hid hlj
            clear huv qy hd1 z1 hlj
            have hj4 : j < 4 := HK2.out
            go_wp2_with fail
            go_roundw
            case rel => exact ⟨j + 1, uv, by omega, by go_num, HUV⟩
            case measure => simp [RowKit.intOf]; omega
          · obtain rfl : j = 4 := by omega
            obtain ⟨M, hM⟩ : ∃ M, pre7 pg 7 ++ crv C g (2 * 4) = M := ⟨_, rfl⟩
            have HLn : Hid (M.length ≤ 9000) := Lib.hid (by rw [← hM]; have := HML.out (2 * 4) (by omega); omega)
            rw [hM] at HI2
            have HMM : Hid (ptrsG pg C g = M ++ [⟨pg, 19, none⟩, ⟨pg, 44, none⟩, ⟨pg, 45, none⟩]) := Lib.hid (by unfold ptrsG; rw [← hM])
            clear hM XGR
            go_upto_region 14 with fail
            refine wp_region_inv 14 (fun qz u' => if qz = 11 then True else if qz = 12 then True else if qz = 13 then True else u' = [us, (.pointer (some ⟨pg, 0, none⟩)), (.pointer (some ⟨pg, 0, none⟩)), (.pointer (some ⟨pg, 10, none⟩)), (.pointer (some ⟨pg, 19, none⟩)), (.pointer (some ⟨pg, 0, none⟩)), (.pointer (some ⟨pg, 0, none⟩)), (.pointer (some ⟨pg, 44, none⟩)), (.pointer (some ⟨pg, 0, none⟩)), (.pointer (some ⟨pg, 0, none⟩)), (.pointer (some ⟨pg, 45, none⟩)), undef, undef, undef].getD qz undef) (fun d vs w' => WXP W p3 us W6 M [⟨pg, 19, none⟩, ⟨pg, 44, none⟩, ⟨pg, 45, none⟩] (d 0) (d 11) (d 12) false (vs 11) (vs 12) w' ∧ (d 13 = true → d 12 = true ∧ vs 13 = vs 12)) (by kernel_rfl) (by kernel_rfl) ?_ ?_ ?_
            · intro vs
              exact ⟨WXP.keep (w := wr) (d5 := false) (by have h := WsP.wx HI2.out [⟨pg, 19, none⟩, ⟨pg, 44, none⟩, ⟨pg, 45, none⟩] (vs 11) (vs 12); exact h) ((Below.refl _ _).drew), fun e => (by cases e)⟩
            · intro iq oq hi ho
              rcases (by omega : iq = 0 ∨ iq = 1 ∨ iq = 2 ∨ iq = 3 ∨ iq = 4 ∨ iq = 5 ∨ iq = 6 ∨ iq = 7 ∨ iq = 8 ∨ iq = 9 ∨ iq = 10 ∨ iq = 11 ∨ iq = 12 ∨ iq = 13) with rfl | rfl | rfl | rfl | rfl | rfl | rfl | rfl | rfl | rfl | rfl | rfl | rfl | rfl
              all_goals simp only [List.getElem?_cons_zero, List.getElem?_cons_succ, Option.some.injEq] at ho
              all_goals subst ho
              all_goals intro d a0 wx hI hag hdep hun
              · have e0 := slot_eq (hag 3 rfl)
                have hq := hI.1.bx.all.1 0
                rw [if_neg (by decide)] at hq
                exact inv_val (v := us) (by simp [go_sem, e0, hq]) (fun h => (by cases h)) rfl ⟨hI.1.set0, hI.2⟩
              · have e0 := slot_eq (hag 0 rfl)
                exact inv_val (v := (.pointer (some ⟨pg, 0, none⟩))) (by simp [go_sem, e0]) (fun h => (by cases h)) rfl hI
              · have e0 := slot_eq (hdep ⟨1, .data⟩ (by simp) rfl).1
                exact inv_val (v := (.pointer (some ⟨pg, 0, none⟩))) (by simp [go_sem, e0]) (fun h => (by cases h)) rfl hI
              · have e0 := slot_eq (hdep ⟨2, .data⟩ (by simp) rfl).1
                exact inv_val (v := (.pointer (some ⟨pg, 10, none⟩))) (by simp [go_sem, e0]) (fun h => (by cases h)) rfl hI
              · have e0 := slot_eq (hdep ⟨3, .data⟩ (by simp) rfl).1
                exact inv_val (v := (.pointer (some ⟨pg, 19, none⟩))) (by simp [go_sem, e0]) (fun h => (by cases h)) rfl hI
              · have e0 := slot_eq (hag 0 rfl)
                exact inv_val (v := (.pointer (some ⟨pg, 0, none⟩))) (by simp [go_sem, e0]) (fun h => (by cases h)) rfl hI
              · have e0 := slot_eq (hdep ⟨5, .data⟩ (by simp) rfl).1
                exact inv_val (v := (.pointer (some ⟨pg, 0, none⟩))) (by simp [go_sem, e0]) (fun h => (by cases h)) rfl hI
              · have e0 := slot_eq (hdep ⟨6, .data⟩ (by simp) rfl).1
                exact inv_val (v := (.pointer (some ⟨pg, 44, none⟩))) (by simp [go_sem, e0]) (fun h => (by cases h)) rfl hI
              · have e0 := slot_eq (hag 0 rfl)
                exact inv_val (v := (.pointer (some ⟨pg, 0, none⟩))) (by simp [go_sem, e0]) (fun h => (by cases h)) rfl hI
              · have e0 := slot_eq (hdep ⟨8, .data⟩ (by simp) rfl).1
                exact inv_val (v := (.pointer (some ⟨pg, 0, none⟩))) (by simp [go_sem, e0]) (fun h => (by cases h)) rfl hI
              · have e0 := slot_eq (hdep ⟨9, .data⟩ (by simp) rfl).1
                exact inv_val (v := (.pointer (some ⟨pg, 45, none⟩))) (by simp [go_sem, e0]) (fun h => (by cases h)) rfl hI
              · have e0 := slot_eq (hdep ⟨4, .data⟩ (by simp) rfl).1
                have e1 := slot_eq (hdep ⟨7, .data⟩ (by simp) rfl).1
                have e2 := slot_eq (hdep ⟨10, .data⟩ (by simp) rfl).1
                exact inv_val (v := .slice (some ⟨wx.heap.size, 0, none⟩) 3 3) (w' := wx.alloc (.cells #[.pointer (some ⟨pg, 19, none⟩), .pointer (some ⟨pg, 44, none⟩), .pointer (some ⟨pg, 45, none⟩)] 53)) (by simp [go_sem, e0, e1, e2]) (fun h => (by cases h)) trivial ⟨WXP.set3 hI.1 3 rfl _ rfl, hI.2⟩
              · have e0 := slot_eq (hdep ⟨0, .data⟩ (by simp) rfl).1
                have h13 : d 13 = false := by
                  cases h : d 13
                  · rfl
                  · have := (hI.2 h).1; rw [hun] at this; cases this
                have hJ2 : WXP W p3 us W6 M [⟨pg, 19, none⟩, ⟨pg, 44, none⟩, ⟨pg, 45, none⟩] (d 0) (d 11) (d 12) false (slotOf _ a0 11) (slotOf _ a0 12) wx := hI.1
                rw [(hdep ⟨0, .data⟩ (by simp) rfl).2, (hdep ⟨11, .data⟩ (by simp) rfl).2, hun] at hJ2
                have hlen := HLn.out
                refine wxp_append hJ2 (Nat.succ_pos _) (by simp only [List.length_cons, List.length_nil]; omega) (.tmp 76) (.tmp 87) rfl (by simp [Act.eval, e0]) rfl ?_
                intro v' w' h'
                refine ⟨v', rfl, fun h => (by cases h), trivial, ?_, fun e => (by rw [show upd d 12 true 13 = d 13 from rfl, h13] at e; cases e)⟩
                show WXP W p3 us W6 M [⟨pg, 19, none⟩, ⟨pg, 44, none⟩, ⟨pg, 45, none⟩] (d 0) (d 11) true false _ v' w'
                rw [(hdep ⟨0, .data⟩ (by simp) rfl).2, (hdep ⟨11, .data⟩ (by simp) rfl).2]
                exact h'
              · obtain ⟨pa, na, ca, hv4⟩ := hI.1.form (hdep ⟨12, .data⟩ (by simp) rfl).2
                have e0 := slot_eq hv4
                refine inv_val (v := slotOf _ a0 12) (w' := wx) ?_ (fun h => (by cases h)) trivial ⟨hI.1, fun _ => ⟨(hdep ⟨12, .data⟩ (by simp) rfl).2, rfl⟩⟩
                rw [hv4]
                simp [go_sem, e0]
            · intro d vs w9 hd hI hA
              have k0 : vs 0 = us := hA 0 (by omega)
              have k1 : vs 1 = (.pointer (some ⟨pg, 0, none⟩)) := hA 1 (by omega)
              have k2 : vs 2 = (.pointer (some ⟨pg, 0, none⟩)) := hA 2 (by omega)
              have k3 : vs 3 = (.pointer (some ⟨pg, 10, none⟩)) := hA 3 (by omega)
              have k4 : vs 4 = (.pointer (some ⟨pg, 19, none⟩)) := hA 4 (by omega)
              have k5 : vs 5 = (.pointer (some ⟨pg, 0, none⟩)) := hA 5 (by omega)
              have k6 : vs 6 = (.pointer (some ⟨pg, 0, none⟩)) := hA 6 (by omega)
              have k7 : vs 7 = (.pointer (some ⟨pg, 44, none⟩)) := hA 7 (by omega)
              have k8 : vs 8 = (.pointer (some ⟨pg, 0, none⟩)) := hA 8 (by omega)
              have k9 : vs 9 = (.pointer (some ⟨pg, 0, none⟩)) := hA 9 (by omega)
              have k10 : vs 10 = (.pointer (some ⟨pg, 45, none⟩)) := hA 10 (by omega)
              simp only [putAll, dstAt, List.getElem?_toArray, List.getElem?_cons_zero, List.getElem?_cons_succ, Option.bind_some, Option.bind_none, Act.put, List.setIfInBounds_toArray, List.set_cons_zero, List.set_cons_succ, k0, k1, k2, k3, k4, k5, k6, k7, k8, k9, k10]
              obtain ⟨h12, hv13⟩ := hI.2 (hd 13 (by omega))
              have hO := hI.1.own
              rw [h12, if_pos rfl] at hO
              have HO := Lib.hid (And.intro hO hI.1.bel)
              rw [hv13]
              obtain ⟨fa, fn, fc, hf12⟩ := hO.form
              generalize vs 11 = u11' at *
              generalize vs 12 = u12' at *
              subst hf12
              clear hI hA hd k0 k1 k2 k3 k4 k5 k6 k7 k8 k9 k10 hO h12 hv13
              go_wp2_with fail
              go_ret
              exact ⟨_, rfl, by rw [HMM.out]; exact HO.out.1, HO.out.2⟩
end Go.Proofs.YtpmbmpfkoffioaaGreatDoor
