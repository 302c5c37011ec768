/- scope.Sketch's errors; dyeref1.Sketch. -/
import Derived.Test.YtjicgbpnplmpbaaDoorSkB
namespace Go.Proofs.YtjicgbpnplmpbaaDoor
open Go.RowKit

set_option maxRecDepth 100000 in
set_option maxHeartbeats 1000000 in
theorem scope_Sketch_0 (a : Option Addr) (c : Nat) (bel abv nan height : Int) (W : World) :
    Calls Tryd.prog 19 #[.agg #[.slice a 0 c, .int .i64 bel, .int .i64 abv, .int .i64 nan], .int .i64 height] W fun e w' => e = .returned (.tuple #[.string ⟨#[]⟩, .int .i64 10]) ∧ Below W.heap.size W w' := by
  go_enter Tryd.func19, Tryd.ntmps19
  go_wp2_with fail
  go_ret2
  exact ⟨rfl, bnew (Below.refl _ W)⟩

set_option maxRecDepth 100000 in
set_option maxHeartbeats 1000000 in
theorem scope_Sketch_4 (a : Option Addr) (n c : Nat) (bel abv nan height : Int) (W : World) (hn : 1024 < n) :
    Calls Tryd.prog 19 #[.agg #[.slice a n c, .int .i64 bel, .int .i64 abv, .int .i64 nan], .int .i64 height] W fun e w' => e = .returned (.tuple #[.string ⟨#[]⟩, .int .i64 4]) ∧ Below W.heap.size W w' := by
  have hd0 : ((n : Int) == 0) = false := by simp; omega
  have hd1 : decide (1024 < (n : Int)) = true := by simp; omega
  go_enter Tryd.func19, Tryd.ntmps19
  go_wp2_with fail
  go_ret2
  exact ⟨rfl, bnew (Below.refl _ W)⟩

set_option maxRecDepth 100000 in
set_option maxHeartbeats 1000000 in
theorem scope_Sketch_h (a : Option Addr) (n c : Nat) (bel abv nan height : Int) (W : World) (hn1 : 0 < n) (hn2 : n ≤ 1024) (hh : height < 1 ∨ 64 < height) :
    Calls Tryd.prog 19 #[.agg #[.slice a n c, .int .i64 bel, .int .i64 abv, .int .i64 nan], .int .i64 height] W fun e w' => e = .returned (.tuple #[.string ⟨#[]⟩, .int .i64 3]) ∧ Below W.heap.size W w' := by
  have hd0 : ((n : Int) == 0) = false := by simp; omega
  have hd1 : decide (1024 < (n : Int)) = false := by simp; omega
  by_cases h1 : height < 1
  · have hd2 : decide (height < 1) = true := by simpa using h1
    clear hh
    go_enter Tryd.func19, Tryd.ntmps19
    go_wp2_with fail
    go_ret2
    exact ⟨rfl, bnew (Below.refl _ W)⟩
  · have h2 : 64 < height := by omega
    have hd2 : decide (height < 1) = false := by simpa using h1
    have hd3 : decide (64 < height) = true := by simpa using h2
    clear hh
    go_enter Tryd.func19, Tryd.ntmps19
    go_wp2_with fail
    go_ret2
    exact ⟨rfl, bnew (Below.refl _ W)⟩

set_option maxRecDepth 100000 in
set_option maxHeartbeats 1000000 in
theorem scope_Sketch_b (b o n c : Nat) (ns : List Int) (bel abv nan height : Int) (W : World) (hn : ns.length = n) (hn1 : 0 < n) (hn2 : n ≤ 1024) (hh1 : 1 ≤ height) (hh2 : height ≤ 64) (hbad : ns.any badI = true) (hb : b < W.heap.size) (hrd : ∀ k, k < n → W.cell? ⟨b, o + k, none⟩ = some (.int .i64 (ns.getD k 0))) :
    Calls Tryd.prog 19 #[.agg #[.slice (some ⟨b, o, none⟩) n c, .int .i64 bel, .int .i64 abv, .int .i64 nan], .int .i64 height] W fun e w' => e = .returned (.tuple #[.string ⟨#[]⟩, .int .i64 3]) ∧ Below W.heap.size W w' := by
  have hd0 : ((n : Int) == 0) = false := by simp; omega
  have hd1 : decide (1024 < (n : Int)) = false := by simp; omega
  have hd2 : decide (height < 1) = false := by simp; omega
  have hd3 : decide (64 < height) = false := by simp; omega
  have B : Below W.heap.size W (W.alloc (.cells #[.slice (some ⟨b, o, none⟩) n c, .int .i64 bel, .int .i64 abv, .int .i64 nan] 47)) := bnew (Below.refl _ W)
  have Hh := Lib.hid (And.intro hn hbad)
  clear hn hbad
  go_enter Tryd.func19, Tryd.ntmps19
  go_wp2_with fail
  refine (sk_contains b o n c ns _ Hh.out.1 (by omega) (Nat.lt_of_lt_of_le hb B.size) (fun k hk => (B.cell (p := ⟨b, o + k, none⟩) hb).trans (hrd k hk))).mono ?_
  rw [Hh.out.2]
  rintro e w1 ⟨rfl, hb1⟩
  have B1 := bcall B hb1
  clear B hb1
  go_wp2_with fail
  go_ret2
  exact ⟨rfl, B1⟩

set_option maxRecDepth 100000 in
set_option maxHeartbeats 1000000 in
theorem ref_Sketch_0 (a : Option Addr) (c : Nat) (bel abv nan height : Int) (W : World) :
    Calls Tryd.prog 20 #[.agg #[.slice a 0 c, .int .i64 bel, .int .i64 abv, .int .i64 nan], .int .i64 height] W fun e w' => e = .returned (.tuple #[.string ⟨#[]⟩, .int .i64 10]) ∧ Below W.heap.size W w' := by
  go_enter Tryd.func20, Tryd.ntmps20
  go_wp2_with fail
  go_ret2
  exact ⟨rfl, bnew (Below.refl _ W)⟩

set_option maxRecDepth 100000 in
set_option maxHeartbeats 1000000 in
theorem ref_Sketch_4 (a : Option Addr) (n c : Nat) (bel abv nan height : Int) (W : World) (hn : 1024 < n) :
    Calls Tryd.prog 20 #[.agg #[.slice a n c, .int .i64 bel, .int .i64 abv, .int .i64 nan], .int .i64 height] W fun e w' => e = .returned (.tuple #[.string ⟨#[]⟩, .int .i64 4]) ∧ Below W.heap.size W w' := by
  have hd0 : ((n : Int) == 0) = false := by simp; omega
  have hd1 : decide (1024 < (n : Int)) = true := by simp; omega
  go_enter Tryd.func20, Tryd.ntmps20
  go_wp2_with fail
  go_ret2
  exact ⟨rfl, bnew (Below.refl _ W)⟩

set_option maxRecDepth 100000 in
set_option maxHeartbeats 2000000 in
theorem ref_Sketch_3 (b o n c : Nat) (ns : List Int) (bel abv nan height : Int) (W : World) (hn : ns.length = n) (hn1 : 0 < n) (hn2 : n ≤ 1024) (hbad : (height < 1 ∨ 64 < height) ∨ ns.any badI = true) (hb : b < W.heap.size) (hrd : ∀ k, k < n → W.cell? ⟨b, o + k, none⟩ = some (.int .i64 (ns.getD k 0))) :
    Calls Tryd.prog 20 #[.agg #[.slice (some ⟨b, o, none⟩) n c, .int .i64 bel, .int .i64 abv, .int .i64 nan], .int .i64 height] W fun e w' => e = .returned (.tuple #[.string ⟨#[]⟩, .int .i64 3]) ∧ Below W.heap.size W w' := by
  have hd0 : ((n : Int) == 0) = false := by simp; omega
  have hd1 : decide (1024 < (n : Int)) = false := by simp; omega
  have B : Below W.heap.size W (W.alloc (.cells #[.slice (some ⟨b, o, none⟩) n c, .int .i64 bel, .int .i64 abv, .int .i64 nan] 47)) := bnew (Below.refl _ W)
  rw [any_bad ns (by omega)] at hbad
  have hmx := fun w (B : Below W.heap.size W w) => Tryd.slices_Max_int b o n c ns w hn1 (by rw [hn]; exact Nat.le_refl _) (by omega) (fun j hj => (B.cell (p := ⟨b, o + j, none⟩) hb).trans (hrd j (by rw [← hn]; exact hj)))
  have hmn := fun w (B : Below W.heap.size W w) => Tryd.slices_Min_int b o n c ns w hn1 (by rw [hn]; exact Nat.le_refl _) (by omega) (fun j hj => (B.cell (p := ⟨b, o + j, none⟩) hb).trans (hrd j (by rw [← hn]; exact hj)))
  rw [List.take_of_length_le (by omega)] at hmx hmn
  generalize Lib.maxOf ns = mx at *
  generalize Lib.minOf ns = mn at *
  have Hmx := Lib.hid hmx
  have Hmn := Lib.hid hmn
  clear hmx hmn hrd hn
  have hcases : mn < 0 ∨ (¬ mn < 0 ∧ 16777216 < mx) ∨ (¬ mn < 0 ∧ ¬ 16777216 < mx ∧ height < 1) ∨ (¬ mn < 0 ∧ ¬ 16777216 < mx ∧ ¬ height < 1 ∧ 64 < height) := by
    simp only [Bool.or_eq_true, decide_eq_true_eq] at hbad
    omega
  clear hbad
  rcases hcases with h1 | ⟨h1, h2⟩ | ⟨h1, h2, h3⟩ | ⟨h1, h2, h3, h4⟩
  · have g1 : decide (mn < 0) = true := by simpa using h1
    go_enter Tryd.func20, Tryd.ntmps20
    go_wp2_with fail
    refine (Hmn.out _ B).mono ?_
    rintro e w1 ⟨rfl, rfl⟩
    go_wp2_with fail
    go_ret2
    exact ⟨rfl, B⟩
  · have g1 : decide (mn < 0) = false := by simpa using h1
    have g2 : decide (16777216 < mx) = true := by simpa using h2
    go_enter Tryd.func20, Tryd.ntmps20
    go_wp2_with fail
    refine (Hmn.out _ B).mono ?_
    rintro e w1 ⟨rfl, rfl⟩
    go_wp2_with fail
    refine (Hmx.out _ B).mono ?_
    rintro e w1 ⟨rfl, rfl⟩
    go_wp2_with fail
    go_ret2
    exact ⟨rfl, B⟩
  · have g1 : decide (mn < 0) = false := by simpa using h1
    have g2 : decide (16777216 < mx) = false := by simpa using h2
    have g3 : decide (height < 1) = true := by simpa using h3
    go_enter Tryd.func20, Tryd.ntmps20
    go_wp2_with fail
    refine (Hmn.out _ B).mono ?_
    rintro e w1 ⟨rfl, rfl⟩
    go_wp2_with fail
    refine (Hmx.out _ B).mono ?_
    rintro e w1 ⟨rfl, rfl⟩
    go_wp2_with fail
    go_ret2
    exact ⟨rfl, B⟩
  · have g1 : decide (mn < 0) = false := by simpa using h1
    have g2 : decide (16777216 < mx) = false := by simpa using h2
    have g3 : decide (height < 1) = false := by simpa using h3
    have g4 : decide (64 < height) = true := by simpa using h4
    go_enter Tryd.func20, Tryd.ntmps20
    go_wp2_with fail
    refine (Hmn.out _ B).mono ?_
    rintro e w1 ⟨rfl, rfl⟩
    go_wp2_with fail
    refine (Hmx.out _ B).mono ?_
    rintro e w1 ⟨rfl, rfl⟩
    go_wp2_with fail
    go_ret2
    exact ⟨rfl, B⟩
end Go.Proofs.YtjicgbpnplmpbaaDoor
