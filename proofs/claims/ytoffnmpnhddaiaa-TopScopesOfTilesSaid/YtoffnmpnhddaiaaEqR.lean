/- slices.Equal at regions. -/
import Derived.Test.YtoffnmpnhddaiaaTil
namespace Go.Proofs.Ytoffnmpnhddaiaa
open Go.RowKit

/-- A slice of regions that reads as the first N of T. -/
def RgS (w : World) (v : Value) (N : Nat) (T : Nat → Int × Int × Int × Int) : Prop :=
  (N = 0 ∧ ∃ a c, v = .slice a 0 c) ∨
  ∃ g c, v = .slice (some ⟨g, 0, none⟩) N c ∧ N ≤ c ∧ g < w.heap.size ∧ ∀ k, k < N → w.cell? ⟨g, k * 4, none⟩ = some (.int .i64 (T k).1) ∧ w.cell? ⟨g, k * 4 + 1, none⟩ = some (.int .i64 (T k).2.1) ∧ w.cell? ⟨g, k * 4 + 2, none⟩ = some (.int .i64 (T k).2.2.1) ∧ w.cell? ⟨g, k * 4 + 3, none⟩ = some (.int .i64 (T k).2.2.2)

set_option maxRecDepth 100000 in
set_option maxHeartbeats 1000000 in
theorem slices_EqualR (v u : Value) (N : Nat) (T : Nat → Int × Int × Int × Int) (W : World) (hN : N ≤ 1000000) (hv : RgS W v N T) (hu : RgS W u N T) :
    Calls Try.prog 37 #[v, u] W fun e w' => e = .returned (.bool true) ∧ Below W.heap.size W w' := by
  rcases hv with ⟨rfl, a, c, rfl⟩ | ⟨g1, c1, rfl, hc1, hg1, hr1⟩
  · obtain ⟨a2, c2, rfl⟩ : ∃ a c, u = .slice a 0 c := by
      rcases hu with ⟨_, a2, c2, rfl⟩ | ⟨g, c, rfl, _⟩
      · exact ⟨_, _, rfl⟩
      · exact ⟨_, _, rfl⟩
    go_enter Try.func37, Try.ntmps37
    go_wp2_with fail
    go_loopw [13] (fun s wr => s = .int .i64 0 ∧ Below W.heap.size W wr) (fun s _ => (intOf s).toNat)
    case atStart => exact ⟨rfl, Below.refl _ _⟩
    case round =>
      obtain ⟨rfl, hbl⟩ := hrel
      go_wp2_with fail
      go_ret
      exact ⟨rfl, hbl⟩
  · rcases hu with ⟨rfl, a2, c2, rfl⟩ | ⟨g2, c2, rfl, hc2, hg2, hr2⟩
    · go_enter Try.func37, Try.ntmps37
      go_wp2_with fail
      go_loopw [13] (fun s wr => s = .int .i64 0 ∧ Below W.heap.size W wr) (fun s _ => (intOf s).toNat)
      case atStart => exact ⟨rfl, Below.refl _ _⟩
      case round =>
        obtain ⟨rfl, hbl⟩ := hrel
        go_wp2_with fail
        go_ret
        exact ⟨rfl, hbl⟩
    · go_enter Try.func37, Try.ntmps37
      go_wp2_with fail
      go_loopw [13] (fun s wr => ∃ k : Nat, k ≤ N ∧ s = .int .i64 k ∧ Below W.heap.size W wr) (fun s _ => N - (intOf s).toNat)
      case atStart => exact ⟨0, by omega, rfl, Below.refl _ _⟩
      case round =>
        obtain ⟨k, hk, rfl, hbl⟩ := hrel
        by_cases hlt : k < N
        · obtain ⟨p1, p2, p3, p4⟩ := hr1 k hlt
          obtain ⟨q1, q2, q3, q4⟩ := hr2 k hlt
          rw [← hbl.cell (p := ⟨g1, _, none⟩) hg1] at p1 p2 p3 p4
          rw [← hbl.cell (p := ⟨g2, _, none⟩) hg2] at q1 q2 q3 q4
          generalize T k = t at *
          have hki : (k : Int) < (N : Int) := by omega
          clear hr1 hr2
          go_wp2_with fail
          go_quiet (fail)
          go_wp2_with fail
          go_roundw
          case rel => exact ⟨k + 1, by omega, by go_num, below_drewN hbl _⟩
          case measure => simp [intOf]; omega
        · have hkN : k = N := by omega
          subst hkN
          go_wp2_with fail
          go_ret
          exact ⟨rfl, hbl⟩
end Go.Proofs.Ytoffnmpnhddaiaa
