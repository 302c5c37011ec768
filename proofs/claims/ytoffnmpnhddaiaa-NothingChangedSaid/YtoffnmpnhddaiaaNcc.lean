/- The histogram of steps between two frames alike. -/
import Derived.Test.YtoffnmpnhddaiaaNcb
namespace Go.Proofs.Ytoffnmpnhddaiaa
open Go.RowKit

theorem infoI : (Try.prog.info? 3).map (fun i => (i.zero, i.size, i.bytes)) = some (some (.int .i64 0), 1, 8) := by kernel_rfl

/-- make([]int, n): a new block, the last one. -/
theorem run_makeI (w : World) (N : Nat) (hN : N ≤ 1000000) :
    (Instr.makeSlice 69 (.int .i64 (N : Int)) (.int .i64 (N : Int))).run Try.prog w = .ok (.slice (some ⟨w.heap.size, 0, none⟩) N N) (w.alloc (.cells (madeCells #[.int .i64 0] N) 3)) := by
  obtain ⟨i0, hi, hz0, hz1, hz2⟩ := info_parts infoI
  have := run_make (P := Try.prog) w 69 3 i0 (.int .i64 0) Try.underlying69 hi hz0 .i64 .i64 N N (by omega) (Int.le_refl _) (by rw [hz2]; omega) (by omega)
  rw [this, hz1]
  simp [Value.cells]

set_option maxRecDepth 100000 in
theorem bits_Len64_zero (W : World) : Calls Try.prog 160 #[.int .u64 0] W fun e w' => e = .returned (.int .i64 0) ∧ W = w' := by
  go_enter Try.func160, Try.ntmps160
  go_wp2
  go_ret
  exact ⟨by kernel_rfl, rfl⟩

set_option maxRecDepth 100000 in
theorem bits_Len_zero (W : World) : Calls Try.prog 145 #[.int .u64 0] W fun e w' => e = .returned (.int .i64 0) ∧ W = w' := by
  go_enter Try.func145, Try.ntmps145
  go_wp2_with (go_at_call 160; refine (bits_Len64_zero _).mono ?_; rintro e w' ⟨rfl, rfl⟩)
  go_ret
  exact ⟨rfl, rfl⟩

/-- 34 counts of which the first is k. -/
def cnt (k : Nat) : Array Value := (Value.int .i64 (k : Int) :: List.replicate 33 (.int .i64 0)).toArray
theorem cnt_zero : madeCells #[.int .i64 0] 34 = cnt 0 := by kernel_rfl
theorem cnt_at (k : Nat) : (cnt k)[0]? = some (.int .i64 (k : Int)) := rfl
theorem cnt_set (k : Nat) : (cnt k).setIfInBounds 0 (.int .i64 ((k + 1 : Nat) : Int)) = cnt (k + 1) := by simp [cnt]

set_option maxRecDepth 100000 in
set_option maxHeartbeats 2000000 in
theorem scope_Steps_self (x y w h : Int) (b n c : Nat) (xs : List Nat) (W : World) (hn : n ≤ 256) (hck : checkFrame x y w h n = 0) (hxs : xs.length = n) (hrd : Rd W b 0 xs) :
    Calls Try.prog 77 #[.agg #[.int .i64 x, .int .i64 y, .int .i64 w, .int .i64 h, .slice (some ⟨b, 0, none⟩) n c], .agg #[.int .i64 x, .int .i64 y, .int .i64 w, .int .i64 h, .slice (some ⟨b, 0, none⟩) n c]] W fun e w' =>
      ∃ g, e = .returned (.tuple #[.slice (some ⟨g, 0, none⟩) 34 34, .int .i64 0]) ∧ W.heap.size ≤ g ∧ Bx w' g 3 (cnt n) ∧ Below W.heap.size W w' := by
  have hnm : n ≤ maxLen := by unfold maxLen; omega
  have hmk : ∀ w : World, (Instr.makeSlice 69 (.int .i64 34) (.int .i64 34)).run Try.prog w = .ok (.slice (some ⟨w.heap.size, 0, none⟩) 34 34) (w.alloc (.cells (madeCells #[.int .i64 0] 34) 3)) := fun w => run_makeI w 34 (by omega)
  have Hxs := Lib.hid hxs
  clear hxs
  have hbl := hrd.lt
  go_enter Try.func77, Try.ntmps77
  go_wp2_with fail
  refine (scope_checkTwo _ _ _ _ _ _ _ _ _ _ _ hnm hnm hck hck).mono ?_
  rintro e w1 ⟨rfl, hb1⟩
  have x0 := ((Bx.new W _ _).alloc _).keep hb1
  have x1 := ((Bx.at (W.heap.size + 1) (by simp))).keep hb1
  have B1 := bcall (bnew (bnew (Below.refl _ W))) hb1
  have hrd1 := hrd.keep B1
  have hs1 := hb1.size
  simp at hs1
  clear hrd hb1
  obtain ⟨q0, f0, l0⟩ := x0.all
  obtain ⟨q1, f1, l1⟩ := x1.all
  go_wp2_with fail
  go_loopw [23] (fun i wr => ∃ k : Nat, k ≤ n ∧ i = .int .i64 k ∧ Bx wr w1.heap.size 3 (cnt k) ∧ Below w1.heap.size w1 wr) (fun i _ => n - (intOf i).toNat)
  case atStart =>
    refine ⟨0, by omega, rfl, ?_, (Below.refl _ _).alloc (Nat.le_refl _) _⟩
    rw [cnt_zero]
    exact Bx.new _ _ _
  case round =>
    obtain ⟨k, hk, rfl, hbx, hbl⟩ := hrel
    obtain ⟨hcl, hfr⟩ := bcell hbl
    by_cases hlt : k < n
    · have hki : (k : Int) < (n : Int) := by omega
      have hc := (hrd1.keep hbl).cell0 k (by rw [Hxs.out]; omega)
      generalize xs.getD k 0 = v at hc
      obtain ⟨g0, g1, g2⟩ := hbx.all
      have g00 := g0 0
      rw [cnt_at] at g00
      clear g0
      cases hv : isNaN v
      · go_wp2_with (go_at_call 144; refine (num_Apart_self _ _).mono ?_; rw [hv]; rintro e w2 ⟨rfl, rfl⟩)
        go_wp2_with (go_at_call 145; refine (bits_Len_zero _).mono ?_; rintro e w' ⟨rfl, rfl⟩)
        go_roundw
        case rel =>
          refine ⟨k + 1, by omega, by go_num, ?_, hbl.setCell (p := ⟨w1.heap.size, 0, none⟩) (Nat.le_refl _) _⟩
          have := hbx.set 0 (.int .i64 ((k + 1 : Nat) : Int))
          rw [cnt_set] at this
          exact this
        case measure => simp [intOf]; omega
      · have ho : (FloatKind.f32.format.order v v != some .eq) = true := hv
        go_wp2_with (go_at_call 144; refine (num_Apart_self _ _).mono ?_; rw [hv]; rintro e w2 ⟨rfl, rfl⟩)
        go_wp2_with fail
        go_roundw
        case rel =>
          refine ⟨k + 1, by omega, by go_num, ?_, hbl.setCell (p := ⟨w1.heap.size, 0, none⟩) (Nat.le_refl _) _⟩
          have := hbx.set 0 (.int .i64 ((k + 1 : Nat) : Int))
          rw [cnt_set] at this
          exact this
        case measure => simp [intOf]; omega
    · have hkn : k = n := by omega
      subst hkn
      go_wp2_with fail
      go_ret2
      exact ⟨w1.heap.size, rfl, by omega, hbx, B1.trans (hbl.mono (by omega))⟩

end Go.Proofs.Ytoffnmpnhddaiaa
