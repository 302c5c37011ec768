/- Apart, Mean and Peak of frames alike. -/
import Derived.Test.YtoffnmpnhddaiaaNca
import Derived.BigRegion
namespace Go.Proofs.Ytoffnmpnhddaiaa
open Go.RowKit

set_option maxRecDepth 100000 in
/-- A single and itself: nought steps apart, or a NaN. -/
theorem num_Apart_self (b : Nat) (W : World) : Calls Try.prog 144 #[.float .f32 b, .float .f32 b] W fun e w' => e = .returned (.tuple #[.int .i64 0, .bool (!isNaN b)]) ∧ W = w' := by
  cases hb : (FloatKind.f32.format.order b b != some .eq)
  · go_enter Try.func144, Try.ntmps144
    go_wp2_with (go_at_call 158; refine (num_place _ _).mono ?_; rintro e w' ⟨rfl, rfl⟩)
    go_ret2
    exact ⟨by simp [isNaN, hb], rfl⟩
  · go_enter Try.func144, Try.ntmps144
    go_wp2_with fail
    go_ret2
    exact ⟨by simp [isNaN, hb], rfl⟩

set_option maxRecDepth 100000 in
theorem scope_less_zero (W : World) : Calls Try.prog 142 #[.float .f32 0, .float .f32 0] W fun e w' => e = .returned (.int .i64 0) ∧ W = w' := by
  go_enter Try.func142, Try.ntmps142
  go_wp2_with (go_at_call 144; refine (num_Apart_self _ _).mono ?_; rintro e w' ⟨rfl, rfl⟩)
  go_ret
  exact ⟨rfl, rfl⟩

theorem getD_zeros (n k : Nat) : (List.replicate n 0).getD k 0 = 0 := by
  rw [List.getD_eq_getElem?_getD, List.getElem?_replicate]
  split <;> rfl

theorem mean_zero : ∀ n : Fin 257, 1 ≤ n.val → fop .quo 0 (floatOfInt .f32 (n.val : Int)) = 0 := by decide +kernel

set_option maxRecDepth 100000 in
theorem num_Mean_zero (b n c : Nat) (W : World) (h1 : 1 ≤ n) (h2 : n ≤ c) (h3 : n ≤ 256) (hrd : Rd W b 0 (List.replicate n 0)) :
    Calls Try.prog 143 #[.slice (some ⟨b, 0, none⟩) n c] W fun e w' => e = .returned (.tuple #[.float .f32 0, .int .i64 0]) ∧ Below W.heap.size W w' := by
  have hn0 : ¬ (n : Int) = 0 := by omega
  go_enter Try.func143, Try.ntmps143
  go_wp2_with fail
  refine (num_Sum _ _ _ _ _ _ (by simp) h1 h2 (by omega) hrd).mono ?_
  rw [sumC_zeros]
  rintro e w1 ⟨rfl, hb1⟩
  go_wp2_with (go_at_call 88; refine (num_Clean _ _).mono ?_; rw [canon_fres]; rintro e w2 ⟨rfl, rfl⟩)
  rw [mean_zero ⟨n, by omega⟩ h1]
  go_ret2
  exact ⟨rfl, below_drewN hb1 _⟩

set_option maxRecDepth 100000 in
set_option maxHeartbeats 1000000 in
theorem scope_Mean_self (x y w h : Int) (b n c : Nat) (xs : List Nat) (W : World) (h1 : 1 ≤ n) (hn : n ≤ 256) (hck : checkFrame x y w h n = 0) (hxs : xs.length = n) (hrd : Rd W b 0 xs) :
    Calls Try.prog 76 #[.agg #[.int .i64 x, .int .i64 y, .int .i64 w, .int .i64 h, .slice (some ⟨b, 0, none⟩) n c], .agg #[.int .i64 x, .int .i64 y, .int .i64 w, .int .i64 h, .slice (some ⟨b, 0, none⟩) n c]] W fun e w' =>
      e = .returned (.tuple #[.float .f32 0, .int .i64 0]) ∧ Below W.heap.size W w' := by
  go_enter Try.func76, Try.ntmps76
  go_wp2_with fail
  refine (scope_differences_self _ _ _ _ _ _ _ xs _ hn hck hxs (hrd.keep (bnew (bnew (Below.refl _ W))))).mono ?_
  rintro e w1 ⟨g, rfl, hg, hrow, hb1⟩
  have B1 := bcall (bnew (bnew (Below.refl _ W))) hb1
  go_wp2_with (go_at_call 143; refine (num_Mean_zero _ _ _ _ h1 (Nat.le_refl _) hn hrow.rd).mono ?_; rintro e w2 ⟨rfl, hb2⟩)
  go_ret2
  exact ⟨rfl, bcall B1 hb2⟩

set_option maxRecDepth 100000 in
set_option maxHeartbeats 2000000 in
theorem scope_Peak_self (x y w h : Int) (b n c : Nat) (xs : List Nat) (W : World) (h1 : 1 ≤ n) (hn : n ≤ 256) (hck : checkFrame x y w h n = 0) (hxs : xs.length = n) (hrd : Rd W b 0 xs) :
    Calls Try.prog 75 #[.agg #[.int .i64 x, .int .i64 y, .int .i64 w, .int .i64 h, .slice (some ⟨b, 0, none⟩) n c], .agg #[.int .i64 x, .int .i64 y, .int .i64 w, .int .i64 h, .slice (some ⟨b, 0, none⟩) n c]] W fun e w' =>
      (∃ px py, e = .returned (.tuple #[.float .f32 0, .agg #[.int .i64 px, .int .i64 py], .int .i64 0])) ∧ Below W.heap.size W w' := by
  have hwh : checkRegion x y w h = 0 := by
    unfold checkFrame at hck
    split at hck
    · assumption
    · exact absurd hck (by assumption)
  obtain ⟨r1, r2, r3, r4, r5, r6, r7, r8, r9⟩ := checkRegion_ok hwh
  clear hwh
  go_enter Try.func75, Try.ntmps75
  go_wp2_with fail
  refine (scope_differences_self _ _ _ _ _ _ _ xs _ hn hck hxs (hrd.keep (bnew (bnew (bnew (Below.refl _ W)))))).mono ?_
  rintro e w1 ⟨g, rfl, hg, hrow, hb1⟩
  have x0 := (((Bx.new W _ _).alloc _).alloc _).keep hb1
  have x1 := ((Bx.at (W.heap.size + 1) (by simp)).alloc _).keep hb1
  have x2 := (Bx.at (W.heap.size + 1 + 1) (by simp)).keep hb1
  have B1 := bcall (bnew (bnew (bnew (Below.refl _ W)))) hb1
  simp at hg
  clear hb1 hrd hck hxs
  obtain ⟨q0, f0, l0⟩ := x0.all
  obtain ⟨q1, f1, l1⟩ := x1.all
  obtain ⟨q2, f2, l2⟩ := x2.all
  go_wp2_with fail
  go_loopw [9, 24] (fun s i wr => ∃ k : Nat, k ≤ n ∧ i = .int .i64 k ∧ s = .int .i64 0 ∧ Below w1.heap.size w1 wr) (fun _ i _ => n - (intOf i).toNat)
  case atStart => exact ⟨0, by omega, rfl, rfl, Below.refl _ _⟩
  case round =>
    obtain ⟨k, hk, rfl, rfl, hbl⟩ := hrel
    obtain ⟨hcl, hfr⟩ := bcell hbl
    by_cases hlt : k < n
    · have hki : (k : Int) < (n : Int) := by omega
      have hrow2 := hrow.keep hbl
      have hc := hrow2.cell k hlt
      have hc0 := hrow2.cell 0 (by omega)
      have e1 : (List.replicate n 0).getD k 0 = 0 := getD_zeros _ _
      have e2 : (List.replicate n 0).getD 0 0 = 0 := getD_zeros _ _
      rw [e1] at hc
      rw [e2] at hc0
      go_wp2_with (go_at_call 142; refine (scope_less_zero _).mono ?_; rintro e w2 ⟨rfl, rfl⟩)
      go_roundw
      case rel => exact ⟨k + 1, by omega, by go_num, rfl, hbl⟩
      case measure => simp [intOf]; omega
    · have hkn : k = n := by omega
      subst hkn
      have hrow2 := hrow.keep hbl
      have hc0 := hrow2.cell 0 (by omega)
      have e2 : (List.replicate k 0).getD 0 0 = 0 := getD_zeros _ _
      rw [e2] at hc0
      have y0 := x0.keep hbl
      have y1 := x1.keep hbl
      have y2 := x2.keep hbl
      obtain ⟨a0, b0, c0⟩ := y0.all
      obtain ⟨a1, b1, c1⟩ := y1.all
      obtain ⟨a2, b2, c2⟩ := y2.all
      go_wp2_with fail
      go_region
      have hB := B1.size
      have t0 : (wr.setCell ⟨W.heap.size + 1 + 1, 0, none⟩ (.int .i64 x)).cell? ⟨W.heap.size + 1 + 1, 0, none⟩ = some (.int .i64 x) := (y2.set 0 (.int .i64 x)).all.1 0
      have t1 : ((wr.setCell ⟨W.heap.size + 1 + 1, 0, none⟩ (.int .i64 x)).setCell ⟨W.heap.size + 1 + 1, 1, none⟩ (.int .i64 y)).cell? ⟨W.heap.size + 1 + 1, 1, none⟩ = some (.int .i64 y) := ((y2.set 0 (.int .i64 x)).set 1 (.int .i64 y)).all.1 1
      go_wp2_with fail
      refine bodyPost_ret (v := .tuple #[.float .f32 0, .agg #[.int .i64 x, .int .i64 y], .int .i64 0]) (by simp [results, Try.results75, go_sem, t0, t1]) rfl ⟨⟨_, _, rfl⟩, ?_⟩
      repeat (first | exact B1.trans (hbl.mono hB) | refine bput (by omega) ?_ | refine bdrew ?_)

end Go.Proofs.Ytoffnmpnhddaiaa
