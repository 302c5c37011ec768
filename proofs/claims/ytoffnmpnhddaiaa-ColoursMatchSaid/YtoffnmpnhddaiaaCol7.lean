/- The check of bands, the program's and the reference's. -/
import Derived.Test.YtoffnmpnhddaiaaNum2
namespace Go.Proofs.Ytoffnmpnhddaiaa
open Go.RowKit

/-- Greater, as Go's > asks it. -/
def gtB (a b : Nat) : Bool := FloatKind.f32.format.order a b == some .gt
/-- The error after k bands. -/
def bandsTo (ls : List Nat) : Nat → Int
  | 0 => 0
  | k + 1 => if bandsTo ls k ≠ 0 then bandsTo ls k else if isNum (ls.getD (k * 5) 0) = false then 2 else if k ≠ 0 ∧ gtB (ls.getD (k * 5) 0) (ls.getD ((k - 1) * 5) 0) = false then 8 else 0
def bandsErr (ls : List Nat) (n : Nat) : Int := if n = 0 then 10 else if 32 < n then 4 else bandsTo ls n
theorem bandsTo_stay (ls : List Nat) (k : Nat) (e : Int) (he : e ≠ 0) (h : bandsTo ls k = e) : ∀ m, k ≤ m → bandsTo ls m = e := by
  intro m hm
  induction m with
  | zero => rw [show 0 = k by omega]; exact h
  | succ m ih =>
    rcases Nat.lt_or_ge m k with hk | hk
    · rw [show m + 1 = k by omega]; exact h
    · rw [bandsTo, ih hk, if_pos he]
/-- A slice of bands. -/
def SlB (w : World) (v : Value) (ls : List Nat) (n : Nat) : Prop := ls.length = 5 * n ∧ ∃ a c, v = .slice a n c ∧ n ≤ maxLen ∧ (n = 0 ∨ ∃ lb lo, a = some ⟨lb, lo, none⟩ ∧ Rd w lb lo ls)
theorem SlB.keep {w w' : World} {v : Value} {ls : List Nat} {n : Nat} (h : SlB w v ls n) (hb : Below w.heap.size w w') : SlB w' v ls n := by
  obtain ⟨h1, a, c, h2, h3, h4⟩ := h
  refine ⟨h1, a, c, h2, h3, ?_⟩
  rcases h4 with h4 | ⟨lb, lo, h5, h6⟩
  · exact .inl h4
  · exact .inr ⟨lb, lo, h5, h6.keep hb⟩

set_option maxRecDepth 100000 in
set_option maxHeartbeats 2000000 in
theorem scope_CheckBands (v : Value) (ls : List Nat) (n : Nat) (W : World) (hs : SlB W v ls n) :
    Calls Try.prog 52 #[v] W fun e w' => e = .returned (.int .i64 (bandsErr ls n)) ∧ Below W.heap.size W w' := by
  obtain ⟨hl, a, c, rfl, hmax, hform⟩ := hs
  unfold maxLen at hmax
  by_cases hn0 : n = 0
  · subst hn0
    have hr : bandsErr ls 0 = 10 := rfl
    rw [hr]
    go_enter Try.func52, Try.ntmps52
    go_wp2_with fail
    go_ret
    exact ⟨rfl, Below.refl _ _⟩
  have e0 : ((n : Int) == 0) = false := by simp; omega
  by_cases hn1 : 32 < n
  · have hr : bandsErr ls n = 4 := by rw [bandsErr, if_neg hn0, if_pos hn1]
    rw [hr]
    have e1 : decide (32 < (n : Int)) = true := by simp; omega
    go_enter Try.func52, Try.ntmps52
    go_wp2_with fail
    go_ret
    exact ⟨rfl, Below.refl _ _⟩
  have e1 : decide (32 < (n : Int)) = false := by simp; omega
  rcases hform with h0 | ⟨lb, lo, rfl, hrd⟩
  · exact absurd h0 hn0
  have hr : bandsErr ls n = bandsTo ls n := by rw [bandsErr, if_neg hn0, if_neg hn1]
  rw [hr]
  have Hl := Lib.hid hl
  clear hl hr
  have hlb := hrd.lt
  have hn32 : n ≤ 32 := by omega
  go_enter Try.func52, Try.ntmps52
  go_wp2_with fail
  go_loopw [13] (fun i wr => ∃ k : Nat, k ≤ n ∧ i = .int .i64 (k : Int) ∧ bandsTo ls k = 0 ∧ Below W.heap.size W wr) (fun i _ => n - (intOf i).toNat)
  case atStart => exact ⟨0, by omega, rfl, rfl, Below.refl _ _⟩
  case round =>
    obtain ⟨k, hk, rfl, hbt, hbl⟩ := hrel
    have Hbt := Lib.hid hbt
    clear hbt
    by_cases hlt : k < n
    · have hki : (k : Int) < (n : Int) := by omega
      have hrk := hrd.keep hbl
      have c0 : wr.cell? ⟨lb, lo + k * 5, none⟩ = some (.float .f32 (ls.getD (k * 5) 0)) := hrk.cell (k * 5) (by rw [Hl.out]; omega)
      have c1 : wr.cell? ⟨lb, lo + k * 5 + 1, none⟩ = some (.float .f32 (ls.getD (k * 5 + 1) 0)) := by rw [Nat.add_assoc]; exact hrk.cell (k * 5 + 1) (by rw [Hl.out]; omega)
      have c2 : wr.cell? ⟨lb, lo + k * 5 + 2, none⟩ = some (.float .f32 (ls.getD (k * 5 + 2) 0)) := by rw [Nat.add_assoc]; exact hrk.cell (k * 5 + 2) (by rw [Hl.out]; omega)
      have c3 : wr.cell? ⟨lb, lo + k * 5 + 3, none⟩ = some (.float .f32 (ls.getD (k * 5 + 3) 0)) := by rw [Nat.add_assoc]; exact hrk.cell (k * 5 + 3) (by rw [Hl.out]; omega)
      have c4 : wr.cell? ⟨lb, lo + k * 5 + 4, none⟩ = some (.float .f32 (ls.getD (k * 5 + 4) 0)) := by rw [Nat.add_assoc]; exact hrk.cell (k * 5 + 4) (by rw [Hl.out]; omega)
      have hsc : bandsTo ls (k + 1) = if isNum (ls.getD (k * 5) 0) = false then 2 else if k ≠ 0 ∧ gtB (ls.getD (k * 5) 0) (ls.getD ((k - 1) * 5) 0) = false then 8 else 0 := by rw [bandsTo, if_neg (by rw [Hbt.out]; simp)]
      have hst := fun e (he : e ≠ 0) (h : bandsTo ls (k + 1) = e) => bandsTo_stay ls (k + 1) e he h n hlt
      generalize ls.getD (k * 5) 0 = b0 at c0 hsc
      generalize ls.getD (k * 5 + 1) 0 = b1 at c1
      generalize ls.getD (k * 5 + 2) 0 = b2 at c2
      generalize ls.getD (k * 5 + 3) 0 = b3 at c3
      generalize ls.getD (k * 5 + 4) 0 = b4 at c4
      have Hsc := Lib.hid hsc
      have Hst := Lib.hid hst
      clear hrk hsc hst
      go_upto_region 8 with fail
      refine name_world ?_
      intro w1 hw1
      have x4 : Bx w1 wr.heap.size 135 #[.float .f32 b0, .float .f32 b1, .float .f32 b2, .float .f32 b3, .float .f32 b4] := by rw [hw1]; exact Bx.new _ _ _
      have hb4 := hbl.size
      have hb4 : Below W.heap.size W w1 := by rw [hw1]; exact bnew hbl
      clear hw1 c0 c1 c2 c3 c4
      obtain ⟨q4, f4, l4⟩ := x4.all
      go_wp2_with fail
      refine (num_IsNumber _ _).mono ?_
      rintro e w2 ⟨rfl, rfl⟩
      generalize hnum : isNum b0 = nb
      have Hnum := Lib.hid hnum
      clear hnum
      cases nb
      · go_wp2_with fail
        go_ret
        exact ⟨ret_int (Hst.out 2 (by omega) (by rw [Hsc.out, if_pos Hnum.out])).symm, hb4⟩
      · have hsc2 : bandsTo ls (k + 1) = if k ≠ 0 ∧ gtB b0 (ls.getD ((k - 1) * 5) 0) = false then 8 else 0 := by rw [Hsc.out, if_neg (by rw [Hnum.out]; simp)]
        by_cases hk0 : k = 0
        · subst hk0
          have hgt0 : decide (((0 : Nat) : Int) > 0) = false := by decide
          have Hz := Lib.hid hsc2
          clear hsc2
          go_wp2_with fail
          go_quiet (fail)
          go_wp2_with fail
          go_roundw
          case rel => exact ⟨1, by omega, by go_num, by rw [Hz.out]; simp, below_drewN hb4 _⟩
          case measure => simp [intOf]; omega
        · have hgt0 : decide (0 < k) = true := by simp; omega
          obtain ⟨k1, hk1⟩ : ∃ k1, k1 = k - 1 := ⟨_, rfl⟩
          have hki1 : (k : Int) - 1 = (k1 : Int) := by omega
          have cp : w1.cell? ⟨lb, lo + k1 * 5, none⟩ = some (.float .f32 (ls.getD (k1 * 5) 0)) := (hrd.keep hb4).cell (k1 * 5) (by rw [Hl.out]; omega)
          rw [← hk1] at hsc2
          generalize ls.getD (k1 * 5) 0 = bp at cp hsc2
          have hkn1 : (k1 : Int) < (n : Int) := by omega
          generalize hg : gtB b0 bp = gb at hsc2
          have ho : (FloatKind.f32.format.order b0 bp == some .gt) = gb := hg
          have Hz := Lib.hid hsc2
          clear hsc2 hk1 hg
          cases gb
          · go_wp2_with fail
            go_quiet (fail)
            go_wp2_with fail
            go_ret
            exact ⟨ret_int (Hst.out 8 (by omega) (by rw [Hz.out]; simp [hk0])).symm, below_drewN hb4 _⟩
          · go_wp2_with fail
            go_quiet (fail)
            go_wp2_with fail
            go_roundw
            case rel => exact ⟨k + 1, by omega, by go_num, by rw [Hz.out]; simp, below_drewN hb4 _⟩
            case measure => simp [intOf]; omega
    · have hkn : k = n := by omega
      subst hkn
      go_wp2_with fail
      go_ret
      exact ⟨ret_int Hbt.out.symm, hbl⟩

set_option maxRecDepth 100000 in
set_option maxHeartbeats 2000000 in
theorem ref_BandsError (v : Value) (ls : List Nat) (n : Nat) (W : World) (hs : SlB W v ls n) :
    Calls Try.prog 53 #[v] W fun e w' => e = .returned (.int .i64 (bandsErr ls n)) ∧ Below W.heap.size W w' := by
  obtain ⟨hl, a, c, rfl, hmax, hform⟩ := hs
  unfold maxLen at hmax
  by_cases hn0 : n = 0
  · subst hn0
    have hr : bandsErr ls 0 = 10 := rfl
    rw [hr]
    go_enter Try.func53, Try.ntmps53
    go_wp2_with fail
    go_ret
    exact ⟨rfl, Below.refl _ _⟩
  have e0 : ((n : Int) == 0) = false := by simp; omega
  by_cases hn1 : 32 < n
  · have hr : bandsErr ls n = 4 := by rw [bandsErr, if_neg hn0, if_pos hn1]
    rw [hr]
    have e1 : decide (32 < (n : Int)) = true := by simp; omega
    go_enter Try.func53, Try.ntmps53
    go_wp2_with fail
    go_ret
    exact ⟨rfl, Below.refl _ _⟩
  have e1 : decide (32 < (n : Int)) = false := by simp; omega
  rcases hform with h0 | ⟨lb, lo, rfl, hrd⟩
  · exact absurd h0 hn0
  have hr : bandsErr ls n = bandsTo ls n := by rw [bandsErr, if_neg hn0, if_neg hn1]
  rw [hr]
  have Hl := Lib.hid hl
  clear hl hr
  have hlb := hrd.lt
  have hn32 : n ≤ 32 := by omega
  go_enter Try.func53, Try.ntmps53
  go_wp2_with fail
  go_loopw [13] (fun i wr => ∃ k : Nat, k ≤ n ∧ i = .int .i64 (k : Int) ∧ bandsTo ls k = 0 ∧ Below W.heap.size W wr) (fun i _ => n - (intOf i).toNat)
  case atStart => exact ⟨0, by omega, rfl, rfl, Below.refl _ _⟩
  case round =>
    obtain ⟨k, hk, rfl, hbt, hbl⟩ := hrel
    have Hbt := Lib.hid hbt
    clear hbt
    by_cases hlt : k < n
    · have hki : (k : Int) < (n : Int) := by omega
      have hrk := hrd.keep hbl
      have c0 : wr.cell? ⟨lb, lo + k * 5, none⟩ = some (.float .f32 (ls.getD (k * 5) 0)) := hrk.cell (k * 5) (by rw [Hl.out]; omega)
      have c1 : wr.cell? ⟨lb, lo + k * 5 + 1, none⟩ = some (.float .f32 (ls.getD (k * 5 + 1) 0)) := by rw [Nat.add_assoc]; exact hrk.cell (k * 5 + 1) (by rw [Hl.out]; omega)
      have c2 : wr.cell? ⟨lb, lo + k * 5 + 2, none⟩ = some (.float .f32 (ls.getD (k * 5 + 2) 0)) := by rw [Nat.add_assoc]; exact hrk.cell (k * 5 + 2) (by rw [Hl.out]; omega)
      have c3 : wr.cell? ⟨lb, lo + k * 5 + 3, none⟩ = some (.float .f32 (ls.getD (k * 5 + 3) 0)) := by rw [Nat.add_assoc]; exact hrk.cell (k * 5 + 3) (by rw [Hl.out]; omega)
      have c4 : wr.cell? ⟨lb, lo + k * 5 + 4, none⟩ = some (.float .f32 (ls.getD (k * 5 + 4) 0)) := by rw [Nat.add_assoc]; exact hrk.cell (k * 5 + 4) (by rw [Hl.out]; omega)
      have hsc : bandsTo ls (k + 1) = if isNum (ls.getD (k * 5) 0) = false then 2 else if k ≠ 0 ∧ gtB (ls.getD (k * 5) 0) (ls.getD ((k - 1) * 5) 0) = false then 8 else 0 := by rw [bandsTo, if_neg (by rw [Hbt.out]; simp)]
      have hst := fun e (he : e ≠ 0) (h : bandsTo ls (k + 1) = e) => bandsTo_stay ls (k + 1) e he h n hlt
      generalize ls.getD (k * 5) 0 = b0 at c0 hsc
      generalize ls.getD (k * 5 + 1) 0 = b1 at c1
      generalize ls.getD (k * 5 + 2) 0 = b2 at c2
      generalize ls.getD (k * 5 + 3) 0 = b3 at c3
      generalize ls.getD (k * 5 + 4) 0 = b4 at c4
      have Hsc := Lib.hid hsc
      have Hst := Lib.hid hst
      clear hrk hsc hst
      go_upto_region 8 with fail
      refine name_world ?_
      intro w1 hw1
      have x4 : Bx w1 wr.heap.size 135 #[.float .f32 b0, .float .f32 b1, .float .f32 b2, .float .f32 b3, .float .f32 b4] := by rw [hw1]; exact Bx.new _ _ _
      have hb4 := hbl.size
      have hb4 : Below W.heap.size W w1 := by rw [hw1]; exact bnew hbl
      clear hw1 c0 c1 c2 c3 c4
      obtain ⟨q4, f4, l4⟩ := x4.all
      go_wp2_with fail
      refine (ref_IsNumber _ _).mono ?_
      rintro e w2 ⟨rfl, hb2⟩
      have x4b := x4.keep hb2
      have hb4b := bcall hb4 hb2
      clear x4 hb4 hb2 q4 f4 l4
      obtain ⟨q4, f4, l4⟩ := x4b.all
      generalize hnum : isNum b0 = nb
      have Hnum := Lib.hid hnum
      clear hnum
      cases nb
      · go_wp2_with fail
        go_ret
        exact ⟨ret_int (Hst.out 2 (by omega) (by rw [Hsc.out, if_pos Hnum.out])).symm, hb4b⟩
      · have hsc2 : bandsTo ls (k + 1) = if k ≠ 0 ∧ gtB b0 (ls.getD ((k - 1) * 5) 0) = false then 8 else 0 := by rw [Hsc.out, if_neg (by rw [Hnum.out]; simp)]
        by_cases hk0 : k = 0
        · subst hk0
          have hgt0 : decide (((0 : Nat) : Int) > 0) = false := by decide
          have Hz := Lib.hid hsc2
          clear hsc2
          go_wp2_with fail
          go_quiet (fail)
          go_wp2_with fail
          go_roundw
          case rel => exact ⟨1, by omega, by go_num, by rw [Hz.out]; simp, below_drewN hb4b _⟩
          case measure => simp [intOf]; omega
        · have hgt0 : decide (0 < k) = true := by simp; omega
          obtain ⟨k1, hk1⟩ : ∃ k1, k1 = k - 1 := ⟨_, rfl⟩
          have hki1 : (k : Int) - 1 = (k1 : Int) := by omega
          have cp : w2.cell? ⟨lb, lo + k1 * 5, none⟩ = some (.float .f32 (ls.getD (k1 * 5) 0)) := (hrd.keep hb4b).cell (k1 * 5) (by rw [Hl.out]; omega)
          rw [← hk1] at hsc2
          generalize ls.getD (k1 * 5) 0 = bp at cp hsc2
          have hkn1 : (k1 : Int) < (n : Int) := by omega
          generalize hg : gtB b0 bp = gb at hsc2
          have ho : (FloatKind.f32.format.order b0 bp == some .gt) = gb := hg
          have Hz := Lib.hid hsc2
          clear hsc2 hk1 hg
          cases gb
          · go_wp2_with fail
            go_quiet (fail)
            go_wp2_with fail
            go_ret
            exact ⟨ret_int (Hst.out 8 (by omega) (by rw [Hz.out]; simp [hk0])).symm, below_drewN hb4b _⟩
          · go_wp2_with fail
            go_quiet (fail)
            go_wp2_with fail
            go_roundw
            case rel => exact ⟨k + 1, by omega, by go_num, by rw [Hz.out]; simp, below_drewN hb4b _⟩
            case measure => simp [intOf]; omega
    · have hkn : k = n := by omega
      subst hkn
      go_wp2_with fail
      go_ret
      exact ⟨ret_int Hbt.out.symm, hbl⟩
end Go.Proofs.Ytoffnmpnhddaiaa
