/- The closures of False: bands over a luma. -/
import Derived.Test.YtoffnmpnhddaiaaCol1
namespace Go.Proofs.Ytoffnmpnhddaiaa
open Go.RowKit

/-- Not greater, as Go's <= asks it. -/
def leB (a b : Nat) : Bool := FloatKind.f32.format.order a b == some .lt || FloatKind.f32.format.order a b == some .eq
/-- The colour after k bands. -/
def falseP (ls : List Nat) (y p3 : Nat) : Nat → Nat → Nat
  | 0, c => if c < 3 then y else p3
  | k + 1, c => if leB (ls.getD (k * 5) 0) y then ls.getD (k * 5 + (1 + c)) 0 else falseP ls y p3 k c

set_option maxRecDepth 100000 in
set_option maxHeartbeats 1000000 in
theorem scope_False1 (X Y : Int) (y pl lb lo n c : Nat) (T : TypeId) (p : Nat → Nat) (ls : List Nat) (W : World) (hl : ls.length = 5 * n) (hn : n ≤ 1000) (hrd : Rd W lb lo ls) (hp : Bx W pl T #[.slice (some ⟨lb, lo, none⟩) n c]) :
    Calls Try.prog 117 #[.int .i64 X, .int .i64 Y, .float .f32 y, .agg #[.float .f32 (p 0), .float .f32 (p 1), .float .f32 (p 2), .float .f32 (p 3)], .pointer (some ⟨pl, 0, none⟩)] W fun e w' =>
      e = .returned (.agg #[.float .f32 (falseP ls y (p 3) n 0), .float .f32 (falseP ls y (p 3) n 1), .float .f32 (falseP ls y (p 3) n 2), .float .f32 (falseP ls y (p 3) n 3)]) ∧ Below W.heap.size W w' := by
  generalize p 0 = p0
  generalize p 1 = p1
  generalize p 2 = p2
  generalize p 3 = p3
  have Hl := Lib.hid hl
  clear hl
  have hlb := hrd.lt
  have hpl := hp.lt
  go_enter Try.func117, Try.ntmps117
  go_upto_region 2 with fail
  refine name_world ?_
  intro wb hwb
  have x9 : Bx wb (W.heap.size + 1) 35 #[.float .f32 0, .float .f32 0, .float .f32 0, .float .f32 0] := by rw [hwb]; exact Bx.alloc (Bx.at _ (by simp)) _
  have x10 : Bx wb (W.heap.size + 1 + 1) 35 #[.float .f32 y, .float .f32 y, .float .f32 y, .float .f32 p3] := by rw [hwb]; exact Bx.at _ (by simp)
  have B0 : Below W.heap.size W wb := by rw [hwb]; exact bnew (bnew (bnew (Below.refl _ W)))
  have zp := hp.keep B0
  obtain ⟨qp, fp, lp⟩ := zp.all
  clear hwb
  go_wp2_with fail
  clear qp fp lp
  go_loopw [21] (fun i wr => ∃ k : Nat, k ≤ n ∧ i = .int .i64 (k : Int) ∧ Bx wr (W.heap.size + 1) 35 #[.float .f32 0, .float .f32 0, .float .f32 0, .float .f32 0] ∧
    Bx wr (W.heap.size + 1 + 1) 35 #[.float .f32 (falseP ls y p3 k 0), .float .f32 (falseP ls y p3 k 1), .float .f32 (falseP ls y p3 k 2), .float .f32 (falseP ls y p3 k 3)] ∧ Below W.heap.size W wr) (fun i _ => n - (intOf i).toNat)
  case atStart => exact ⟨0, by omega, rfl, x9, x10, B0⟩
  case round =>
    clear x9 x10 B0
    obtain ⟨k, hk, rfl, x9, x10, hbl⟩ := hrel
    by_cases hlt : k < n
    · have hki : (k : Int) < (n : Int) := by omega
      have hr := hrd.keep hbl
      have c0 : wr.cell? ⟨lb, lo + k * 5, none⟩ = _ := hr.cell (k * 5) (by rw [Hl.out]; omega)
      have c1 : wr.cell? ⟨lb, lo + k * 5 + 1, none⟩ = some (.float .f32 (ls.getD (k * 5 + 1) 0)) := by rw [Nat.add_assoc]; exact hr.cell (k * 5 + 1) (by rw [Hl.out]; omega)
      have c2 : wr.cell? ⟨lb, lo + k * 5 + 2, none⟩ = some (.float .f32 (ls.getD (k * 5 + 2) 0)) := by rw [Nat.add_assoc]; exact hr.cell (k * 5 + 2) (by rw [Hl.out]; omega)
      have c3 : wr.cell? ⟨lb, lo + k * 5 + 3, none⟩ = some (.float .f32 (ls.getD (k * 5 + 3) 0)) := by rw [Nat.add_assoc]; exact hr.cell (k * 5 + 3) (by rw [Hl.out]; omega)
      have c4 : wr.cell? ⟨lb, lo + k * 5 + 4, none⟩ = some (.float .f32 (ls.getD (k * 5 + 4) 0)) := by rw [Nat.add_assoc]; exact hr.cell (k * 5 + 4) (by rw [Hl.out]; omega)
      obtain ⟨q10, f10, l10⟩ := x10.all
      clear hr
      have hs0 : falseP ls y p3 (k + 1) 0 = if leB (ls.getD (k * 5) 0) y then ls.getD (k * 5 + 1) 0 else falseP ls y p3 k 0 := rfl
      have hs1 : falseP ls y p3 (k + 1) 1 = if leB (ls.getD (k * 5) 0) y then ls.getD (k * 5 + 2) 0 else falseP ls y p3 k 1 := rfl
      have hs2 : falseP ls y p3 (k + 1) 2 = if leB (ls.getD (k * 5) 0) y then ls.getD (k * 5 + 3) 0 else falseP ls y p3 k 2 := rfl
      have hs3 : falseP ls y p3 (k + 1) 3 = if leB (ls.getD (k * 5) 0) y then ls.getD (k * 5 + 4) 0 else falseP ls y p3 k 3 := rfl
      generalize ls.getD (k * 5) 0 = b0 at *
      generalize ls.getD (k * 5 + 1) 0 = b1 at *
      generalize ls.getD (k * 5 + 2) 0 = b2 at *
      generalize ls.getD (k * 5 + 3) 0 = b3 at *
      generalize ls.getD (k * 5 + 4) 0 = b4 at *
      generalize falseP ls y p3 k 0 = d0 at *
      generalize falseP ls y p3 k 1 = d1 at *
      generalize falseP ls y p3 k 2 = d2 at *
      generalize falseP ls y p3 k 3 = d3 at *
      cases hle : leB b0 y
      · simp only [hle, Bool.false_eq_true, if_false] at hs0 hs1 hs2 hs3
        have Hs := Lib.hid (And.intro hs0 (And.intro hs1 (And.intro hs2 hs3)))
        have ho : (FloatKind.f32.format.order b0 y == some .lt || FloatKind.f32.format.order b0 y == some .eq) = false := hle
        clear hs0 hs1 hs2 hs3 hle
        go_wp2_with fail
        go_roundw
        case rel => exact ⟨k + 1, by omega, by go_num, x9.alloc _, by rw [Hs.out.1, Hs.out.2.1, Hs.out.2.2.1, Hs.out.2.2.2]; exact x10.alloc _, bnew hbl⟩
        case measure => simp [intOf]; omega
      · simp only [hle, if_true] at hs0 hs1 hs2 hs3
        have Hs := Lib.hid (And.intro hs0 (And.intro hs1 (And.intro hs2 hs3)))
        have ho : (FloatKind.f32.format.order b0 y == some .lt || FloatKind.f32.format.order b0 y == some .eq) = true := hle
        clear hs0 hs1 hs2 hs3 hle
        go_wp2_with fail
        have l10b := hbl.size
        go_roundw
        case rel =>
          obtain ⟨s1, o1⟩ := set4 x10 (.float .f32 b1) (.float .f32 b2) (.float .f32 b3) (.float .f32 b4)
          exact ⟨k + 1, by omega, by go_num, (o1.bx (by omega) x9).alloc _, by rw [Hs.out.1, Hs.out.2.1, Hs.out.2.2.1, Hs.out.2.2.2]; exact s1.alloc _, bnew (bonly hbl o1 (by omega))⟩
        case measure => simp [intOf]; omega
    · have hkn : k = n := by omega
      subst hkn
      obtain ⟨q10, f10, l10⟩ := x10.all
      obtain ⟨q9, f9, l9⟩ := x9.all
      go_wp2_with fail
      have y9 := (set4 x9 (.float .f32 (falseP ls y p3 k 0)) (.float .f32 (falseP ls y p3 k 1)) (.float .f32 (falseP ls y p3 k 2)) (.float .f32 (falseP ls y p3 k 3))).1.all.1
      exact bodyPost_ret (v := .agg #[.float .f32 (falseP ls y p3 k 0), .float .f32 (falseP ls y p3 k 1), .float .f32 (falseP ls y p3 k 2), .float .f32 (falseP ls y p3 k 3)]) (by simp [results, Try.results117, go_sem, y9, q9]) rfl ⟨rfl, bput (by omega) (bput (by omega) (bput (by omega) (bput (by omega) hbl)))⟩
end Go.Proofs.Ytoffnmpnhddaiaa
