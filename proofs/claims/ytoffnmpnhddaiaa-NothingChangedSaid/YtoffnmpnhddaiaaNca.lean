/- Two frames alike: their differences are nought. -/
import Derived.Test.YtoffnmpnhddaiaaChg
import Derived.Test.YtoffnmpnhddaiaaSum
namespace Go.Proofs.Ytoffnmpnhddaiaa
open Go.RowKit

theorem scope_difference_self (b : Nat) (w : World) : Calls Try.prog 157 #[.float .f32 b, .float .f32 b] w fun e w' => e = .returned (.float .f32 0) ∧ w = w' := by
  go_enter Try.func157, Try.ntmps157
  go_wp2_with (go_at_call 81; refine (num_Bits _ _).mono ?_; rintro e w' ⟨rfl, rfl⟩)
  go_ret
  exact ⟨rfl, rfl⟩

set_option maxRecDepth 100000 in
set_option maxHeartbeats 1000000 in
theorem scope_differences_self (x y w h : Int) (b n c : Nat) (xs : List Nat) (W : World) (hn : n ≤ 256) (hck : checkFrame x y w h n = 0) (hxs : xs.length = n) (hrd : Rd W b 0 xs) :
    Calls Try.prog 141 #[.agg #[.int .i64 x, .int .i64 y, .int .i64 w, .int .i64 h, .slice (some ⟨b, 0, none⟩) n c], .agg #[.int .i64 x, .int .i64 y, .int .i64 w, .int .i64 h, .slice (some ⟨b, 0, none⟩) n c]] W fun e w' =>
      ∃ g, e = .returned (.tuple #[.slice (some ⟨g, 0, none⟩) n n, .int .i64 0]) ∧ W.heap.size ≤ g ∧ Row w' g n (List.replicate n 0) ∧ Below W.heap.size W w' := by
  have hnm : n ≤ maxLen := by unfold maxLen; omega
  have hmk := fun w => run_makeF w n (by omega)
  have Hxs := Lib.hid hxs
  clear hxs
  have hbl := hrd.lt
  go_enter Try.func141, Try.ntmps141
  go_wp2_with fail
  refine (scope_checkTwo _ _ _ _ _ _ _ _ _ _ _ hnm hnm hck hck).mono ?_
  rintro e w1 ⟨rfl, hb1⟩
  have x0 := ((Bx.new W _ _).alloc _).keep hb1
  have x1 := ((Bx.at (W.heap.size + 1) (by simp))).keep hb1
  have B1 := bcall (bnew (bnew (Below.refl _ W))) hb1
  have hrd1 := hrd.keep B1
  have hs1 := hb1.size
  simp at hs1
  clear hrd hb1
  obtain ⟨q0, f0, l0⟩ := x0.all
  obtain ⟨q1, f1, l1⟩ := x1.all
  go_wp2_with fail
  go_loopw [23] (fun i wr => ∃ k : Nat, k ≤ n ∧ i = .int .i64 k ∧ Row wr w1.heap.size n (List.replicate n 0) ∧ Below w1.heap.size w1 wr) (fun i _ => n - (intOf i).toNat)
  case atStart =>
    exact ⟨0, by omega, rfl, Row.made _ _, (Below.refl _ _).alloc (Nat.le_refl _) _⟩
  case round =>
    obtain ⟨k, hk, rfl, hrow, hbl⟩ := hrel
    obtain ⟨hcl, hfr⟩ := bcell hbl
    by_cases hlt : k < n
    · have hki : (k : Int) < (n : Int) := by omega
      have hc := (hrd1.keep hbl).cell0 k (by rw [Hxs.out]; omega)
      have hrc := hrow.cell k hlt
      have hrf := hrow.frozen k
      go_wp2_with (go_at_call 157; refine (scope_difference_self _ _).mono ?_; rintro e w' ⟨rfl, rfl⟩)
      go_roundw
      case rel =>
        refine ⟨k + 1, by omega, by go_num, ?_, hbl.setCell (p := ⟨w1.heap.size, k, none⟩) (Nat.le_refl _) _⟩
        have h1 := hrow.store k 0
        have h2 : (List.replicate n 0).set k 0 = List.replicate n 0 := by
          apply List.ext_getElem
          · simp
          · intro i _ _; simp [List.getElem_set]
        rwa [h2] at h1
      case measure => simp [intOf]; omega
    · have hkn : k = n := by omega
      subst hkn
      go_wp2_with fail
      go_ret2
      exact ⟨w1.heap.size, rfl, by omega, hrow, B1.trans (hbl.mono (by omega))⟩

/-- The sum of noughts. -/
theorem sumC_zeros (f : Nat) : ∀ n, sumC f (List.replicate n 0) = 0 := by
  induction f with
  | zero => intro n; rfl
  | succ f ih =>
    intro n
    rw [sumC]
    by_cases h0 : n = 0
    · simp [h0]
    · by_cases h1 : n = 1
      · subst h1
        show canon 0 = 0
        decide
      · simp only [List.length_replicate]
        rw [if_neg h0, if_neg h1, List.take_replicate, List.drop_replicate, ih, ih]
        decide

/-- What num.place makes of a single. -/
def plc (b : Nat) : Int := if bits .and .i64 (wrap64 b) 2147483648 = 0 then wrap64 b else wrap64 (wrap64 (-(bits .and .i64 (wrap64 b) 2147483647)) - 1)
theorem num_place (b : Nat) (W : World) : Calls Try.prog 158 #[.float .f32 b] W fun e w' => e = .returned (.int .i64 (plc b)) ∧ W = w' := by
  by_cases hz : bits .and .i64 (wrap64 (b : Int)) 2147483648 = 0
  · go_enter Try.func158, Try.ntmps158
    go_wp2
    go_ret
    exact ⟨ret_int (by rw [plc, if_pos hz]), rfl⟩
  · go_enter Try.func158, Try.ntmps158
    go_wp2
    go_ret
    exact ⟨ret_int (by rw [plc, if_neg hz]), rfl⟩

end Go.Proofs.Ytoffnmpnhddaiaa
