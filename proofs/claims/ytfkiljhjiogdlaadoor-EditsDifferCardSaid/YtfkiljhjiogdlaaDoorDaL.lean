/- slices.Equal and slices.ContainsFunc at ranges. -/
import Derived.Test.YtfkiljhjiogdlaaDoorDaO
import Derived.BigQuiet
namespace Go.Proofs.YtfkiljhjiogdlaaDoor
open Go.RowKit

theorem OutR.cells {B : Nat} {w : World} {g cap n : Nat} {L : List (Int × Int)} (h : OutR B w (.slice (some ⟨g, 0, none⟩) n cap) L) (k : Nat) (hk : k < L.length) : w.cell? ⟨g, k * 2, none⟩ = some (.int .i64 (L.getD k default).1) ∧ w.cell? ⟨g, k * 2 + 1, none⟩ = some (.int .i64 (L.getD k default).2) := by
  have hn : n = L.length := by
    rcases h.2 with ⟨h0, _⟩ | ⟨g', cap', cur, e1, _⟩
    · cases h0
    · injection e1
  subst hn
  have hl := rgC_len L
  refine ⟨?_, ?_⟩
  · rw [World.ownsRow.cellAt h (k * 2) (by omega)]
    clear hl h
    induction L generalizing k with
    | nil => simp at hk
    | cons a r ih =>
      cases k with
      | zero => rfl
      | succ k =>
        rw [show (k + 1) * 2 = k * 2 + 1 + 1 by omega]
        exact ih k (by simpa using hk)
  · rw [World.ownsRow.cellAt h (k * 2 + 1) (by omega)]
    exact rgC_get hk
theorem OutR.max {B : Nat} {w : World} {v : Value} {L : List (Int × Int)} (h : OutR B w v L) : L.length ≤ 9223372036854775807 := by
  rcases h.2 with ⟨_, h1⟩ | ⟨g, cap, cur, e1, e2, e3, e4, e5, _⟩
  · omega
  · unfold maxLen at e5; omega

set_option maxRecDepth 100000 in
set_option maxHeartbeats 4000000 in
theorem slices_EqualRg {B1 B2 : Nat} {v u : Value} {L : List (Int × Int)} (W : World) (hv : OutR B1 W v L) (hu : OutR B2 W u L) :
    Calls Tryd.prog 8 #[v, u] W fun e w' => e = .returned (.bool true) ∧ Below W.heap.size W w' := by
  have hmax := hv.max
  rcases hv.form with ⟨rfl, rfl⟩ | ⟨g1, c1, rfl, -, l1, hv⟩
  · obtain ⟨a2, c2, rfl⟩ : ∃ a c, u = .slice a 0 c := by
      rcases hu.form with ⟨_, rfl⟩ | ⟨g, c, rfl, _⟩
      · exact ⟨_, _, rfl⟩
      · exact ⟨_, _, rfl⟩
    clear hv hu
    go_enter Tryd.func8, Tryd.ntmps8
    go_wp2_with fail
    go_loopw [13] (fun s wr => s = .int .i64 0 ∧ Below W.heap.size W wr) (fun s _ => (intOf s).toNat)
    case atStart => exact ⟨rfl, Below.refl _ _⟩
    case round =>
      obtain ⟨rfl, hbl⟩ := hrel
      go_wp2_with fail
      go_ret
      exact ⟨rfl, hbl⟩
  · obtain ⟨N, hN⟩ : ∃ N, N = L.length := ⟨_, rfl⟩
    obtain ⟨a2, c2, rfl, hu2⟩ : ∃ a c, u = .slice a N c ∧ (0 < N → ∃ g, a = some ⟨g, 0, none⟩ ∧ g < W.heap.size ∧ OutR B2 W (.slice (some ⟨g, 0, none⟩) N c) L) := by
      rcases hu.form with ⟨h0, rfl⟩ | ⟨g, c, rfl, _, hg, h⟩
      · exact ⟨none, 0, by rw [hN, h0]; rfl, fun h => by rw [hN, h0] at h; cases h⟩
      · exact ⟨_, c, by rw [hN], fun _ => ⟨g, rfl, hg, by rw [hN]; exact h⟩⟩
    rw [← hN] at hv hmax ⊢
    have HN := Lib.hid hN
    clear hN hu
    go_enter Tryd.func8, Tryd.ntmps8
    go_wp2_with fail
    go_loopw [13] (fun s wr => ∃ k : Nat, k ≤ N ∧ s = .int .i64 (k : Int) ∧ Below W.heap.size W wr) (fun s _ => N - (intOf s).toNat)
    case atStart => exact ⟨0, by omega, rfl, Below.refl _ _⟩
    case round =>
      obtain ⟨k, hk, rfl, hbl⟩ := hrel
      by_cases hlt : k < N
      · obtain ⟨g2, rfl, l2, hu2⟩ := hu2 (by omega)
        obtain ⟨p1, p2⟩ := hv.cells k (by rw [← HN.out]; exact hlt)
        obtain ⟨q1, q2⟩ := hu2.cells k (by rw [← HN.out]; exact hlt)
        have p1 := (hbl.cell (p := ⟨g1, k * 2, none⟩) l1).trans p1
        have p2 := (hbl.cell (p := ⟨g1, k * 2 + 1, none⟩) l1).trans p2
        have q1 := (hbl.cell (p := ⟨g2, k * 2, none⟩) l2).trans q1
        have q2 := (hbl.cell (p := ⟨g2, k * 2 + 1, none⟩) l2).trans q2
        generalize (L.getD k default).1 = x at p1 q1
        generalize (L.getD k default).2 = y at p2 q2
        have hki : (k : Int) < (N : Int) := by omega
        clear hv hu2
        go_wp2_with fail
        go_quiet (fail)
        go_wp2_with fail
        go_roundw
        case rel => exact ⟨k + 1, by omega, by go_num, below_drewN hbl _⟩
        case measure => simp [intOf]; omega
      · have hkN : k = N := by omega
        subst hkN
        go_wp2_with fail
        go_ret
        exact ⟨rfl, hbl⟩

/-- A frame within a range. -/
def inRg (f : Int) (r : Int × Int) : Bool := decide (r.1 ≤ f) && decide (f < r.2)
set_option maxRecDepth 100000 in
set_option maxHeartbeats 2000000 in
theorem law_differ1 (x y f : Int) {p : Nat} {T : TypeId} (W : World) (hp : Bx W p T #[.int .i64 f]) :
    Calls Tryd.prog 11 #[.agg #[.int .i64 x, .int .i64 y], .pointer (some ⟨p, 0, none⟩)] W fun e w' => e = .returned (.bool (inRg f (x, y))) ∧ Below W.heap.size W w' := by
  have hr : inRg f (x, y) = (decide (x ≤ f) && decide (f < y)) := rfl
  rw [hr]
  clear hr
  cases h1 : decide (x ≤ f) <;> cases h2 : decide (f < y)
  all_goals
    go_enter Tryd.func11, Tryd.ntmps11
    go_upto_region 1 with fail
    refine name_world ?_
    intro w0 hw0
    have x2 : Bx w0 W.heap.size 33 #[.int .i64 x, .int .i64 y] := by rw [hw0]; exact Bx.new _ _ _
    have B : Below W.heap.size W w0 := by rw [hw0]; exact bnew (Below.refl _ W)
    have hp0 := hp.keep B
    clear hw0
    obtain ⟨q2, f2, l2⟩ := x2.all
    obtain ⟨qp, fp, lp⟩ := hp0.all
    go_wp2_with fail
    go_ret
    exact ⟨rfl, B⟩
theorem any_take2 {q : Int × Int → Bool} (ps : List (Int × Int)) (k : Nat) (hk : k < ps.length) (h : (ps.take k).any q = false) : (q (ps.getD k default) = true → ps.any q = true) ∧ (q (ps.getD k default) = false → (ps.take (k + 1)).any q = false) := by
  have e : ps.getD k default = ps[k] := by simp [List.getD, hk]
  rw [e]
  refine ⟨fun h1 => List.any_eq_true.2 ⟨ps[k], List.getElem_mem hk, h1⟩, fun h1 => ?_⟩
  rw [List.take_succ_eq_append_getElem hk, List.any_append, h]
  simp [h1]
set_option maxRecDepth 100000 in
set_option maxHeartbeats 4000000 in
theorem index_differ {B1 : Nat} {v : Value} {L : List (Int × Int)} {p : Nat} {T : TypeId} (f : Int) (W : World) (hv : OutR B1 W v L) (hp : Bx W p T #[.int .i64 f]) :
    Calls Tryd.prog 31 #[v, .func (.func 11) #[] #[.pointer (some ⟨p, 0, none⟩)]] W fun e w' => ∃ i, e = .returned (.int .i64 i) ∧ decide (0 ≤ i) = L.any (inRg f) ∧ Below W.heap.size W w' := by
  have hmax := hv.max
  obtain ⟨N, hN⟩ : ∃ N, N = L.length := ⟨_, rfl⟩
  obtain ⟨a, c, rfl, hv2⟩ : ∃ a c, v = .slice a N c ∧ (0 < N → ∃ g, a = some ⟨g, 0, none⟩ ∧ g < W.heap.size ∧ OutR B1 W (.slice (some ⟨g, 0, none⟩) N c) L) := by
    rcases hv.form with ⟨h0, rfl⟩ | ⟨g, c, rfl, _, hg, h⟩
    · exact ⟨none, 0, by rw [hN, h0]; rfl, fun h => by rw [hN, h0] at h; cases h⟩
    · exact ⟨_, c, by rw [hN], fun _ => ⟨g, rfl, hg, by rw [hN]; exact h⟩⟩
  rw [← hN] at hmax
  have Hn := Lib.hid hN
  clear hN hv
  generalize hres : L.any (inRg f) = res
  have Hres := Lib.hid hres
  clear hres
  go_enter Tryd.func31, Tryd.ntmps31
  go_wp2_with fail
  go_loopw [8] (fun i wr => ∃ k : Nat, k ≤ N ∧ i = .int .i64 (k : Int) ∧ Hid ((L.take k).any (inRg f) = false) ∧ Below W.heap.size W wr) (fun i _ => N - (intOf i).toNat)
  case atStart => exact ⟨0, by omega, rfl, Lib.hid (by simp), Below.refl _ _⟩
  case round =>
    obtain ⟨k, hk, rfl, hz, B⟩ := hrel
    by_cases hlt : k < N
    · obtain ⟨g, rfl, hbl, hv3⟩ := hv2 (by omega)
      obtain ⟨z1, z2⟩ := hv3.cells k (by rw [← Hn.out]; exact hlt)
      obtain ⟨t1, t2⟩ := any_take2 L k (by rw [← Hn.out]; exact hlt) hz.out
      have T := Lib.hid (And.intro t1 t2)
      have e1 := (B.cell (p := ⟨g, k * 2, none⟩) hbl).trans z1
      have e2 := (B.cell (p := ⟨g, k * 2 + 1, none⟩) hbl).trans z2
      have hpp : L.getD k default = ((L.getD k default).1, (L.getD k default).2) := rfl
      rw [hpp] at T
      generalize (L.getD k default).1 = px at *
      generalize (L.getD k default).2 = py at *
      clear hv3 z1 z2 t1 t2 hpp hv2
      go_wp2_with fail
      refine (law_differ1 px py f _ (hp.keep B)).mono ?_
      cases hb : inRg f (px, py)
      · rintro e w1 ⟨rfl, hb1⟩
        replace B := bcall B hb1
        have hz2 := Lib.hid (T.out.2 hb)
        clear hb1 T hb hz
        go_wp2_with fail
        go_roundw
        case rel => exact ⟨k + 1, by omega, by go_num, hz2, B⟩
        case measure => simp [intOf]; omega
      · rintro e w1 ⟨rfl, hb1⟩
        replace B := bcall B hb1
        obtain rfl : res = true := by rw [← Hres.out]; exact T.out.1 hb
        clear hb1 T hb hz
        go_wp2_with fail
        go_ret
        exact ⟨_, rfl, decide_eq_true (by omega), B⟩
    · obtain rfl : k = N := by omega
      obtain rfl : res = false := by
        have h := hz.out
        rw [Hn.out, List.take_length] at h
        rw [← Hres.out]; exact h
      go_wp2_with fail
      go_ret
      exact ⟨_, rfl, by decide, B⟩
set_option maxRecDepth 100000 in
set_option maxHeartbeats 2000000 in
theorem contains_differ {B1 : Nat} {v : Value} {L : List (Int × Int)} {p : Nat} {T : TypeId} (f : Int) (W : World) (hv : OutR B1 W v L) (hp : Bx W p T #[.int .i64 f]) :
    Calls Tryd.prog 10 #[v, .func (.func 11) #[] #[.pointer (some ⟨p, 0, none⟩)]] W fun e w' => e = .returned (.bool (L.any (inRg f))) ∧ Below W.heap.size W w' := by
  have K := Lib.hid (fun w (h : OutR B1 w v L) (hp : Bx w p T #[.int .i64 f]) => index_differ f w h hp)
  have HS := Lib.hid hv
  have HP := Lib.hid hp
  clear hv hp
  generalize L.any (inRg f) = res at *
  go_enter Tryd.func10, Tryd.ntmps10
  go_wp2_with fail
  refine (K.out _ HS.out HP.out).mono ?_
  rintro e w1 ⟨i, rfl, hi, B⟩
  go_wp2_with fail
  go_ret
  exact ⟨rfl, B⟩
end Go.Proofs.YtfkiljhjiogdlaaDoor
