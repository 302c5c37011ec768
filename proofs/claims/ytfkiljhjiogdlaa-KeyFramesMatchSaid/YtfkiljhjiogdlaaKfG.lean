/- slices.Equal at points; dyelaw1.sameWindow of windows that are alike. -/
import Derived.Test.YtfkiljhjiogdlaaWnB
import Derived.Test.YtfkiljhjiogdlaaSc
import Derived.Test.YtfkiljhjiogdlaaGrd
import Derived.BigQuiet
namespace Go.Proofs.Ytfkiljhjiogdlaa
open Go.RowKit

set_option maxRecDepth 100000 in
set_option maxHeartbeats 4000000 in
theorem slices_EqualP {v u : Value} {ps : List (Int × Int)} (W : World) (hv : SlP W v ps) (hu : SlP W u ps) :
    Calls Try.prog 37 #[v, u] W fun e w' => e = .returned (.bool true) ∧ Below W.heap.size W w' := by
  obtain ⟨a1, c1, rfl, hmax, h1⟩ := hv
  obtain ⟨a2, c2, rfl, -, h2⟩ := hu
  unfold maxLen at hmax
  obtain ⟨N, hN⟩ : ∃ N, N = ps.length := ⟨_, rfl⟩
  rcases h1 with h0 | ⟨b1, o1, rfl, l1, h1⟩
  · subst h0
    obtain rfl : N = 0 := hN
    clear h2 hmax
    show Calls Try.prog _ #[.slice a1 0 c1, .slice a2 0 c2] _ _
    go_enter Try.func37, Try.ntmps37
    go_wp2_with fail
    go_loopw [13] (fun s wr => s = .int .i64 0 ∧ Below W.heap.size W wr) (fun s _ => (intOf s).toNat)
    case atStart => exact ⟨rfl, Below.refl _ _⟩
    case round =>
      obtain ⟨rfl, hbl⟩ := hrel
      go_wp2_with fail
      go_ret
      exact ⟨rfl, hbl⟩
  · have h2 : N = 0 ∨ ∃ b o, a2 = some ⟨b, o, none⟩ ∧ b < W.heap.size ∧ ∀ k, k < ps.length → PtAt W b (o + k * 2) (ps.getD k default) := by
      rcases h2 with h0 | h2
      · left; rw [hN, h0]; rfl
      · exact .inr h2
    rw [← hN] at hmax h1 h2 ⊢
    have H1 := Lib.hid h1
    have H2 := Lib.hid h2
    clear hN h1 h2
    go_enter Try.func37, Try.ntmps37
    go_wp2_with fail
    go_loopw [13] (fun s wr => ∃ k : Nat, k ≤ N ∧ s = .int .i64 (k : Int) ∧ Below W.heap.size W wr) (fun s _ => N - (intOf s).toNat)
    case atStart => exact ⟨0, by omega, rfl, Below.refl _ _⟩
    case round =>
      obtain ⟨k, hk, rfl, hbl⟩ := hrel
      by_cases hlt : k < N
      · rcases H2.out with h0 | ⟨b2, o2, rfl, l2, h2⟩
        · omega
        obtain ⟨p1, p2⟩ := H1.out k hlt
        obtain ⟨q1, q2⟩ := h2 k hlt
        have p1 := (hbl.cell (p := ⟨b1, o1 + k * 2, none⟩) l1).trans p1
        have p2 := (hbl.cell (p := ⟨b1, o1 + k * 2 + 1, none⟩) l1).trans p2
        have q1 := (hbl.cell (p := ⟨b2, o2 + k * 2, none⟩) l2).trans q1
        have q2 := (hbl.cell (p := ⟨b2, o2 + k * 2 + 1, none⟩) l2).trans q2
        generalize (ps.getD k default).1 = x at p1 q1
        generalize (ps.getD k default).2 = y at p2 q2
        have hki : (k : Int) < (N : Int) := by omega
        clear h2 H2 H1
        go_wp2_with fail
        go_quiet (fail)
        go_wp2_with fail
        go_roundw
        case rel => exact ⟨k + 1, by omega, by go_num, below_drewN hbl _⟩
        case measure => simp [intOf]; omega
      · have hkN : k = N := by omega
        subst hkN
        go_wp2_with fail
        go_ret
        exact ⟨rfl, hbl⟩

theorem law_exactT (a : Nat) (w : World) : Calls Try.prog 22 #[.float .f32 a, .float .f32 a] w fun e w' => e = .returned (.bool true) ∧ w = w' := by
  refine (law_exact a a w).mono ?_
  rintro e w' ⟨rfl, rfl⟩
  exact ⟨by rw [beq_self_eq_true], rfl⟩
set_option maxRecDepth 100000 in
set_option maxHeartbeats 4000000 in
theorem law_same (kind : Int) (X Y Wd H S : Nat) (out : Bool) (v u : Value) (ps : List (Int × Int)) (W : World) (hv : SlP W v ps) (hu : SlP W u ps) :
    Calls Try.prog 13 #[.agg #[.int .i64 kind, .float .f32 X, .float .f32 Y, .float .f32 Wd, .float .f32 H, .float .f32 S, v, .bool out], .agg #[.int .i64 kind, .float .f32 X, .float .f32 Y, .float .f32 Wd, .float .f32 H, .float .f32 S, u, .bool out]] W fun e w' => e = .returned (.bool true) ∧ Below W.heap.size W w' := by
  have hv2 := Lib.hid hv
  have hu2 := Lib.hid hu
  obtain ⟨a1, c1, rfl, -⟩ := hv
  obtain ⟨a2, c2, rfl, -⟩ := hu
  generalize ps.length = n at hv2 hu2 ⊢
  have hoo : (out == out) = true := beq_self_eq_true out
  go_enter Try.func13, Try.ntmps13
  go_upto_region 1 with fail
  refine name_world ?_
  intro w0 hw0
  have x2 : Bx w0 W.heap.size 25 #[.int .i64 kind, .float .f32 X, .float .f32 Y, .float .f32 Wd, .float .f32 H, .float .f32 S, .slice a1 n c1, .bool out] := by rw [hw0]; exact (Bx.new _ _ _).alloc _
  have x3 : Bx w0 (W.heap.size + 1) 25 #[.int .i64 kind, .float .f32 X, .float .f32 Y, .float .f32 Wd, .float .f32 H, .float .f32 S, .slice a2 n c2, .bool out] := by rw [hw0]; exact Bx.at _ (by simp)
  have B : Below W.heap.size W w0 := by rw [hw0]; exact bnew (bnew (Below.refl _ W))
  clear hw0
  obtain ⟨q2, f2, l2⟩ := x2.all
  obtain ⟨q3, f3, l3⟩ := x3.all
  go_wp2_with fail
  refine (slices_EqualP _ (hv2.out.keep B) (hu2.out.keep B)).mono ?_
  rintro e w1 ⟨rfl, hb⟩
  replace x2 := x2.keep hb
  replace x3 := x3.keep hb
  replace B := bcall B hb
  clear hb q2 f2 l2 q3 f3 l3
  obtain ⟨q2, f2, l2⟩ := x2.all
  obtain ⟨q3, f3, l3⟩ := x3.all
  go_wp2_with (go_at_call 22; refine (law_exactT _ _).mono ?_; rintro e w' ⟨rfl, rfl⟩)
  go_ret
  exact ⟨rfl, B⟩
end Go.Proofs.Ytfkiljhjiogdlaa
