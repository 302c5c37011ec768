/- Close: its closures, slices.ContainsFunc at replies; conform's Close. (printed by gen_rvd.py) -/
import Derived.Test.YtilninaminaadaaGreatDoorRvC
import Derived.BigQuiet
namespace Go.Proofs.YtilninaminaadaaGreatDoor
open Go.RowKit

theorem str_beq (a b : ByteArray) : (a.toList == b.toList) = decide (a = b) := by
  rw [Lib.toList_data, Lib.toList_data, Bool.eq_iff_iff, beq_iff_eq, decide_eq_true_iff]
  exact bytes_inj
theorem any_take_r {q : Rp → Bool} (ps : List Rp) (k : Nat) (hk : k < ps.length) (h : (ps.take k).any q = false) : (q (ps.getD k default) = true → ps.any q = true) ∧ (q (ps.getD k default) = false → (ps.take (k + 1)).any q = false) := by
  have e : ps.getD k default = ps[k] := by simp [List.getD, hk]
  rw [e]
  refine ⟨fun h1 => List.any_eq_true.2 ⟨ps[k], List.getElem_mem hk, h1⟩, fun h1 => ?_⟩
  rw [List.take_succ_eq_append_getElem hk, List.any_append, h]
  simp [h1]

set_option maxRecDepth 100000 in
set_option maxHeartbeats 2000000 in
theorem cl_one (a t au : ByteArray) {p : Nat} (W : World) (hp : Bx W p 9 #[.string au]) :
    Calls Tryz.prog 53 #[.agg #[.string a, .string t], .pointer (some ⟨p, 0, none⟩)] W fun e w' => e = .returned (.bool (!decide (a = au))) ∧ Below W.heap.size W w' := by
  have hr : (!decide (a = au)) = (a.toList != au.toList) := by
    rw [bne, str_beq]
  rw [hr]
  clear hr
  go_enter Tryz.func53, Tryz.ntmps53
  go_upto_region 1 with fail
  refine name_world ?_
  intro w0 hw0
  have x2 : Bx w0 W.heap.size 74 #[.string a, .string t] := by rw [hw0]; exact Bx.new _ _ _
  have B : Below W.heap.size W w0 := by rw [hw0]; exact bnew (Below.refl _ W)
  have hp0 := hp.keep B
  clear hw0
  obtain ⟨q2, f2, l2⟩ := x2.all
  obtain ⟨qp, fp, lp⟩ := hp0.all
  go_wp2_with fail
  go_ret
  exact ⟨by first | rfl | trivial, B⟩
set_option maxRecDepth 100000 in
set_option maxHeartbeats 4000000 in
theorem cl_index {v : Value} {L : List Rp} {p : Nat} (au : ByteArray) (W : World) (hv : RowN W 74 2 v L.length (rcell L)) (hl : L.length ≤ 1000000) (hp : Bx W p 9 #[.string au]) :
    Calls Tryz.prog 68 #[v, .func (.func 53) #[] #[.pointer (some ⟨p, 0, none⟩)]] W fun e w' => ∃ i, e = .returned (.int .i64 i) ∧ decide (0 ≤ i) = (L.any fun y => !decide (y.author = au)) ∧ Below W.heap.size W w' := by
  obtain ⟨N, hN⟩ : ∃ N, N = L.length := ⟨_, rfl⟩
  rw [← hN] at hv hl
  obtain ⟨a, c, rfl, hv2⟩ : ∃ a c, v = .slice a N c ∧ (0 < N → ∃ g, a = some ⟨g, 0, none⟩ ∧ g < W.heap.size ∧ ∀ k j, k < N → j < 2 → W.cell? ⟨g, k * 2 + j, none⟩ = some (rcell L k j)) := by
    obtain ⟨a, c, e, _⟩ := hv.form
    refine ⟨a, c, e, fun h => ?_⟩
    obtain ⟨g, cap, e2, hg, _, _, hc, _⟩ := hv.open h
    rw [e] at e2
    cases e2
    exact ⟨g, rfl, hg, hc⟩
  have Hn := Lib.hid hN
  clear hN hv
  generalize hres : (L.any fun y => !decide (y.author = au)) = res
  have Hres := Lib.hid hres
  clear hres
  go_enter Tryz.func68, Tryz.ntmps68
  go_wp2_with fail
  go_loopw [8] (fun i wr => ∃ k : Nat, k ≤ N ∧ i = .int .i64 (k : Int) ∧ Hid (((L.take k).any fun y => !decide (y.author = au)) = false) ∧ Below W.heap.size W wr) (fun i _ => N - (intOf i).toNat)
  case atStart => exact ⟨0, by omega, rfl, Lib.hid (by simp), Below.refl _ _⟩
  case round =>
    obtain ⟨k, hk, rfl, hz, B⟩ := hrel
    by_cases hlt : k < N
    · obtain ⟨g, rfl, hbl, hv3⟩ := hv2 (by omega)
      have z1 : W.cell? ⟨g, k * 2, none⟩ = some (.string (rAt L k).author) := hv3 k 0 hlt (by omega)
      have z2 : W.cell? ⟨g, k * 2 + 1, none⟩ = some (.string (rAt L k).text) := hv3 k 1 hlt (by omega)
      obtain ⟨t1, t2⟩ := any_take_r (q := fun y => !decide (y.author = au)) L k (by rw [← Hn.out]; exact hlt) hz.out
      have T := Lib.hid (And.intro t1 t2)
      have e1 := (B.cell (p := ⟨g, k * 2, none⟩) hbl).trans z1
      have e2 := (B.cell (p := ⟨g, k * 2 + 1, none⟩) hbl).trans z2
      have hpp : (!decide ((L.getD k default).author = au)) = (!decide ((rAt L k).author = au)) := rfl
      rw [hpp] at T
      generalize (rAt L k).author = px at *
      generalize (rAt L k).text = py at *
      clear hv3 z1 z2 t1 t2 hpp hv2
      go_wp2_with fail
      refine (cl_one px py au _ (hp.keep B)).mono ?_
      cases hb : !decide (px = au)
      · rintro e w1 ⟨rfl, hb1⟩
        replace B := bcall B hb1
        have hz2 := Lib.hid (T.out.2 hb)
        clear hb1 T hb hz
        go_wp2_with fail
        go_roundw
        case rel => exact ⟨k + 1, by omega, by go_num, hz2, B⟩
        case measure => simp [intOf]; omega
      · rintro e w1 ⟨rfl, hb1⟩
        replace B := bcall B hb1
        obtain rfl : res = true := by rw [← Hres.out]; exact T.out.1 hb
        clear hb1 T hb hz
        go_wp2_with fail
        go_ret
        exact ⟨_, rfl, decide_eq_true (by omega), B⟩
    · obtain rfl : k = N := by omega
      obtain rfl : res = false := by
        have h := hz.out
        rw [Hn.out, List.take_length] at h
        rw [← Hres.out]; exact h
      go_wp2_with fail
      go_ret
      exact ⟨_, rfl, by decide, B⟩
set_option maxRecDepth 100000 in
set_option maxHeartbeats 2000000 in
theorem cl_contains {v : Value} {L : List Rp} {p : Nat} (au : ByteArray) (W : World) (hv : RowN W 74 2 v L.length (rcell L)) (hl : L.length ≤ 1000000) (hp : Bx W p 9 #[.string au]) :
    Calls Tryz.prog 52 #[v, .func (.func 53) #[] #[.pointer (some ⟨p, 0, none⟩)]] W fun e w' => e = .returned (.bool (L.any fun y => !decide (y.author = au))) ∧ Below W.heap.size W w' := by
  have K := Lib.hid (cl_index au W hv hl hp)
  clear hv hp hl
  generalize (L.any fun y => !decide (y.author = au)) = res at *
  go_enter Tryz.func52, Tryz.ntmps52
  go_wp2_with fail
  refine K.out.mono ?_
  rintro e w1 ⟨i, rfl, hi, hb⟩
  go_wp2_with fail
  go_ret
  exact ⟨by first | rfl | (rw [hi]) | exact congrArg _ (congrArg _ hi), hb⟩

set_option maxRecDepth 100000 in
set_option maxHeartbeats 2000000 in
theorem rl_one (a t au : ByteArray) {p : Nat} (W : World) (hp : Bx W p 9 #[.string au]) :
    Calls Tryz.prog 54 #[.agg #[.string a, .string t], .pointer (some ⟨p, 0, none⟩)] W fun e w' => e = .returned (.bool (!decide (a = au))) ∧ Below W.heap.size W w' := by
  have hr : (!decide (a = au)) = (a.toList != au.toList) := by
    rw [bne, str_beq]
  rw [hr]
  clear hr
  go_enter Tryz.func54, Tryz.ntmps54
  go_upto_region 1 with fail
  refine name_world ?_
  intro w0 hw0
  have x2 : Bx w0 W.heap.size 74 #[.string a, .string t] := by rw [hw0]; exact Bx.new _ _ _
  have B : Below W.heap.size W w0 := by rw [hw0]; exact bnew (Below.refl _ W)
  have hp0 := hp.keep B
  clear hw0
  obtain ⟨q2, f2, l2⟩ := x2.all
  obtain ⟨qp, fp, lp⟩ := hp0.all
  go_wp2_with fail
  go_ret
  exact ⟨by first | rfl | trivial, B⟩
set_option maxRecDepth 100000 in
set_option maxHeartbeats 4000000 in
theorem rl_index {v : Value} {L : List Rp} {p : Nat} (au : ByteArray) (W : World) (hv : RowN W 74 2 v L.length (rcell L)) (hl : L.length ≤ 1000000) (hp : Bx W p 9 #[.string au]) :
    Calls Tryz.prog 68 #[v, .func (.func 54) #[] #[.pointer (some ⟨p, 0, none⟩)]] W fun e w' => ∃ i, e = .returned (.int .i64 i) ∧ decide (0 ≤ i) = (L.any fun y => !decide (y.author = au)) ∧ Below W.heap.size W w' := by
  obtain ⟨N, hN⟩ : ∃ N, N = L.length := ⟨_, rfl⟩
  rw [← hN] at hv hl
  obtain ⟨a, c, rfl, hv2⟩ : ∃ a c, v = .slice a N c ∧ (0 < N → ∃ g, a = some ⟨g, 0, none⟩ ∧ g < W.heap.size ∧ ∀ k j, k < N → j < 2 → W.cell? ⟨g, k * 2 + j, none⟩ = some (rcell L k j)) := by
    obtain ⟨a, c, e, _⟩ := hv.form
    refine ⟨a, c, e, fun h => ?_⟩
    obtain ⟨g, cap, e2, hg, _, _, hc, _⟩ := hv.open h
    rw [e] at e2
    cases e2
    exact ⟨g, rfl, hg, hc⟩
  have Hn := Lib.hid hN
  clear hN hv
  generalize hres : (L.any fun y => !decide (y.author = au)) = res
  have Hres := Lib.hid hres
  clear hres
  go_enter Tryz.func68, Tryz.ntmps68
  go_wp2_with fail
  go_loopw [8] (fun i wr => ∃ k : Nat, k ≤ N ∧ i = .int .i64 (k : Int) ∧ Hid (((L.take k).any fun y => !decide (y.author = au)) = false) ∧ Below W.heap.size W wr) (fun i _ => N - (intOf i).toNat)
  case atStart => exact ⟨0, by omega, rfl, Lib.hid (by simp), Below.refl _ _⟩
  case round =>
    obtain ⟨k, hk, rfl, hz, B⟩ := hrel
    by_cases hlt : k < N
    · obtain ⟨g, rfl, hbl, hv3⟩ := hv2 (by omega)
      have z1 : W.cell? ⟨g, k * 2, none⟩ = some (.string (rAt L k).author) := hv3 k 0 hlt (by omega)
      have z2 : W.cell? ⟨g, k * 2 + 1, none⟩ = some (.string (rAt L k).text) := hv3 k 1 hlt (by omega)
      obtain ⟨t1, t2⟩ := any_take_r (q := fun y => !decide (y.author = au)) L k (by rw [← Hn.out]; exact hlt) hz.out
      have T := Lib.hid (And.intro t1 t2)
      have e1 := (B.cell (p := ⟨g, k * 2, none⟩) hbl).trans z1
      have e2 := (B.cell (p := ⟨g, k * 2 + 1, none⟩) hbl).trans z2
      have hpp : (!decide ((L.getD k default).author = au)) = (!decide ((rAt L k).author = au)) := rfl
      rw [hpp] at T
      generalize (rAt L k).author = px at *
      generalize (rAt L k).text = py at *
      clear hv3 z1 z2 t1 t2 hpp hv2
      go_wp2_with fail
      refine (rl_one px py au _ (hp.keep B)).mono ?_
      cases hb : !decide (px = au)
      · rintro e w1 ⟨rfl, hb1⟩
        replace B := bcall B hb1
        have hz2 := Lib.hid (T.out.2 hb)
        clear hb1 T hb hz
        go_wp2_with fail
        go_roundw
        case rel => exact ⟨k + 1, by omega, by go_num, hz2, B⟩
        case measure => simp [intOf]; omega
      · rintro e w1 ⟨rfl, hb1⟩
        replace B := bcall B hb1
        obtain rfl : res = true := by rw [← Hres.out]; exact T.out.1 hb
        clear hb1 T hb hz
        go_wp2_with fail
        go_ret
        exact ⟨_, rfl, decide_eq_true (by omega), B⟩
    · obtain rfl : k = N := by omega
      obtain rfl : res = false := by
        have h := hz.out
        rw [Hn.out, List.take_length] at h
        rw [← Hres.out]; exact h
      go_wp2_with fail
      go_ret
      exact ⟨_, rfl, by decide, B⟩
set_option maxRecDepth 100000 in
set_option maxHeartbeats 2000000 in
theorem rl_contains {v : Value} {L : List Rp} {p : Nat} (au : ByteArray) (W : World) (hv : RowN W 74 2 v L.length (rcell L)) (hl : L.length ≤ 1000000) (hp : Bx W p 9 #[.string au]) :
    Calls Tryz.prog 52 #[v, .func (.func 54) #[] #[.pointer (some ⟨p, 0, none⟩)]] W fun e w' => e = .returned (.bool (L.any fun y => !decide (y.author = au))) ∧ Below W.heap.size W w' := by
  have K := Lib.hid (rl_index au W hv hl hp)
  clear hv hp hl
  generalize (L.any fun y => !decide (y.author = au)) = res at *
  go_enter Tryz.func52, Tryz.ntmps52
  go_wp2_with fail
  refine K.out.mono ?_
  rintro e w1 ⟨i, rfl, hi, hb⟩
  go_wp2_with fail
  go_ret
  exact ⟨by first | rfl | (rw [hi]) | exact congrArg _ (congrArg _ hi), hb⟩

end Go.Proofs.YtilninaminaadaaGreatDoor
