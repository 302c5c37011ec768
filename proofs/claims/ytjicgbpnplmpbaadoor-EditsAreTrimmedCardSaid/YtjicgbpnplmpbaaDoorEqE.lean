/- slices.Equal at events and dyelaw1.sameEdits, of lists that are the same. -/
import Derived.Test.YtjicgbpnplmpbaaDoorEvt
namespace Go.Proofs.YtjicgbpnplmpbaaDoor
open Go.RowKit

set_option maxRecDepth 100000 in
set_option maxHeartbeats 2000000 in
theorem slices_EqualE (v u : Value) (es : List Ev) (W : World) (hN : es.length ≤ 1000) (hv : SlE W v es) (hu : SlE W u es) :
    Calls Tryd.prog 64 #[v, u] W fun e w' => e = .returned (.bool true) ∧ Below W.heap.size W w' := by
  obtain ⟨a1, c1, rfl, -, hv⟩ := hv
  obtain ⟨a2, c2, rfl, -, hu⟩ := hu
  obtain ⟨N, hNd⟩ : ∃ N, N = es.length := ⟨_, rfl⟩
  rw [← hNd] at hN ⊢
  have Hn := Lib.hid hNd
  clear hNd
  go_enter Tryd.func64, Tryd.ntmps64
  go_wp2_with fail
  go_loopw [13] (fun s wr => ∃ k : Nat, k ≤ N ∧ s = .int .i64 (k : Int) ∧ Below W.heap.size W wr) (fun s _ => N - (intOf s).toNat)
  case atStart => exact ⟨0, by omega, rfl, Below.refl _ _⟩
  case round =>
    obtain ⟨k, hk, rfl, hbl⟩ := hrel
    by_cases hlt : k < N
    · rcases hv with h0 | ⟨b1, o1, rfl, l1, g1⟩
      · exfalso; have := Hn.out; rw [h0] at this; simp at this; omega
      rcases hu with h0 | ⟨b2, o2, rfl, l2, g2⟩
      · exfalso; have := Hn.out; rw [h0] at this; simp at this; omega
      obtain ⟨p1, p2, p3, p4, p5, p6⟩ := (g1 k (by rw [← Hn.out]; exact hlt)).keep hbl l1
      obtain ⟨q1, q2, q3, q4, q5, q6⟩ := (g2 k (by rw [← Hn.out]; exact hlt)).keep hbl l2
      generalize es.getD k default = t at p1 p2 p3 p4 p5 p6 q1 q2 q3 q4 q5 q6
      have hki : (k : Int) < (N : Int) := by omega
      clear g1 g2
      go_wp2_with fail
      go_quiet (fail)
      go_wp2_with fail
      go_roundw
      case rel => exact ⟨k + 1, by omega, by go_num, below_drewN hbl _⟩
      case measure => simp [intOf]; omega
    · have hkN : k = N := by omega
      subst hkN
      go_wp2_with fail
      go_ret
      exact ⟨rfl, hbl⟩

set_option maxRecDepth 100000 in
set_option maxHeartbeats 2000000 in
theorem law_sameEdits (t : ByteArray) (r : Int) (v u : Value) (es : List Ev) (W : World) (hN : es.length ≤ 1000) (hv : SlE W v es) (hu : SlE W u es) :
    Calls Tryd.prog 24 #[.agg #[.string t, .int .i64 r, v], .agg #[.string t, .int .i64 r, u]] W fun e w' => e = .returned (.bool true) ∧ Below W.heap.size W w' := by
  have H := Lib.hid (fun w (B : Below W.heap.size W w) => slices_EqualE v u es w hN (hv.keep B) (hu.keep B))
  have hv1 : v.cells = #[v] := by obtain ⟨a, c, rfl, _⟩ := hv; rfl
  have hu1 : u.cells = #[u] := by obtain ⟨a, c, rfl, _⟩ := hu; rfl
  clear hv hu hN
  go_enter Tryd.func24, Tryd.ntmps24
  go_upto_region 1 with fail
  refine name_world ?_
  intro w0 hw0
  have x2 : Bx w0 W.heap.size 52 #[.string t, .int .i64 r, v] := by rw [hw0]; exact (Bx.new _ _ _).keep (bnew (Below.refl _ _))
  have x3 : Bx w0 (W.heap.size + 1) 52 #[.string t, .int .i64 r, u] := by
    rw [hw0]
    have h := Bx.new (W.alloc (.cells #[.string t, .int .i64 r, v] 52)) 52 #[.string t, .int .i64 r, u]
    simpa using h
  have B : Below W.heap.size W w0 := by rw [hw0]; exact bnew (bnew (Below.refl _ W))
  clear hw0
  obtain ⟨q2, f2, l2⟩ := x2.all
  obtain ⟨q3, f3, l3⟩ := x3.all
  go_wp2_with fail
  refine (H.out _ B).mono ?_
  rintro e w1 ⟨rfl, hb1⟩
  replace B := bcall B hb1
  clear hb1 q2 f2 l2 q3 f3 l3 x2 x3
  go_wp2_with fail
  go_ret
  exact ⟨rfl, B⟩
end Go.Proofs.YtjicgbpnplmpbaaDoor
