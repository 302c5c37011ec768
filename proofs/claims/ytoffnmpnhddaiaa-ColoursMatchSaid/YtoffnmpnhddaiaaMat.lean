/- Mattes: the checks, and the law's own maker. -/
import Derived.Test.YtoffnmpnhddaiaaEch
import Derived.Test.YtoffnmpnhddaiaaChg
import Derived.Test.YtoffnmpnhddaiaaReg
import Derived.RegionTactic
namespace Go.Proofs.Ytoffnmpnhddaiaa
open Go.RowKit

def checkMatte (x y w h : Int) (n : Nat) : Int := if checkRegion x y w h = 0 then (if (n : Int) = w * h then 0 else 2) else checkRegion x y w h

set_option maxRecDepth 100000 in
theorem frame_CheckMatte (x y w h : Int) (a : Option Addr) (n c : Nat) (W : World) :
    Calls Try.prog 104 #[.agg #[.int .i64 x, .int .i64 y, .int .i64 w, .int .i64 h, .slice a n c]] W fun e w' => e = .returned (.int .i64 (checkMatte x y w h n)) ∧ Below W.heap.size W w' := by
  cases hc : (checkRegion x y w h != 0)
  · have h0 : checkRegion x y w h = 0 := by simpa using hc
    obtain ⟨b1, b2, b3, b4, _⟩ := checkRegion_ok h0
    obtain ⟨M, hM⟩ : ∃ M : Nat, w * h = (M : Int) := ⟨(w * h).toNat, by have := mul_bd w h b1 b2 b3 b4; omega⟩
    have HM : wrap64 (w * h) = (M : Int) := (wrap_mul w h b1 b2 b3 b4).trans hM
    have HidN := Lib.hid hM
    have H0 := Lib.hid h0
    clear hM h0
    by_cases hnn : n = M
    · subst hnn
      go_enter Try.func104, Try.ntmps104
      go_wp2_with (go_at_call 32; refine (frame_CheckRegion _ _ _ _ _).mono ?_; rintro e w' ⟨rfl, hb1⟩; obtain ⟨c0, f0⟩ := bat hb1 W.heap.size (by simp))
      go_ret
      exact ⟨ret_int (by simp [checkMatte, H0.out, HidN.out]), ((Below.refl _ _).alloc (Nat.le_refl _) _).trans (hb1.mono (by simp))⟩
    · have hne : ¬ ((n : Int) = (M : Int)) := by omega
      go_enter Try.func104, Try.ntmps104
      go_wp2_with (go_at_call 32; refine (frame_CheckRegion _ _ _ _ _).mono ?_; rintro e w' ⟨rfl, hb1⟩; obtain ⟨c0, f0⟩ := bat hb1 W.heap.size (by simp))
      go_ret
      exact ⟨ret_int (by simp [checkMatte, H0.out, HidN.out, hne]), ((Below.refl _ _).alloc (Nat.le_refl _) _).trans (hb1.mono (by simp))⟩
  · go_enter Try.func104, Try.ntmps104
    go_wp2_with (go_at_call 32; refine (frame_CheckRegion _ _ _ _ _).mono ?_; rintro e w' ⟨rfl, hb1⟩; obtain ⟨c0, f0⟩ := bat hb1 W.heap.size (by simp))
    go_ret
    have h0 : ¬ checkRegion x y w h = 0 := by simpa using hc
    exact ⟨ret_int (by simp [checkMatte, h0]), ((Below.refl _ _).alloc (Nat.le_refl _) _).trans (hb1.mono (by simp))⟩

def whenV (b : Bool) (n : Int) : Int := if b then n else 0
def firstV (a b : Int) : Int := if a = 0 then b else a
theorem ref_When (b : Bool) (n : Int) (W : World) : Calls Try.prog 107 #[.bool b, .int .i64 n] W fun e w' => e = .returned (.int .i64 (whenV b n)) ∧ W = w' := by
  cases b
  all_goals
    go_enter Try.func107, Try.ntmps107
    go_wp2
    go_ret
    exact ⟨rfl, rfl⟩

/-- First of two errors. -/
theorem ref_First2 (a b : Int) (g c : Nat) (T : TypeId) (W : World) (hg : Bx W g T #[.int .i64 a, .int .i64 b]) : Calls Try.prog 106 #[.slice (some ⟨g, 0, none⟩) 2 c] W fun e w' => e = .returned (.int .i64 (firstV a b)) ∧ Below W.heap.size W w' := by
  obtain ⟨q, f, l⟩ := hg.all
  have q0 := q 0
  have q1 := q 1
  simp only [List.getElem?_toArray, List.getElem?_cons_zero, List.getElem?_cons_succ] at q0 q1
  clear q f hg
  by_cases ha : a = 0
  · subst ha
    by_cases hb : b = 0
    · subst hb
      go_enter Try.func106, Try.ntmps106
      go_wp2_with fail
      refine wp_loop_rounds 3 ?_
      rw [rounds_succ]
      go_wp2_with fail
      rw [rounds_succ]
      go_wp2_with fail
      rw [rounds_succ]
      go_wp2_with fail
      go_ret
      exact ⟨rfl, Below.refl _ _⟩
    · go_enter Try.func106, Try.ntmps106
      go_wp2_with fail
      refine wp_loop_rounds 2 ?_
      rw [rounds_succ]
      go_wp2_with fail
      rw [rounds_succ]
      go_wp2_with fail
      go_ret
      exact ⟨rfl, Below.refl _ _⟩
  · go_enter Try.func106, Try.ntmps106
    go_wp2_with fail
    refine wp_loop_rounds 1 ?_
    rw [rounds_succ]
    go_wp2_with fail
    go_ret
    exact ⟨ret_int (by simp [firstV, ha]), Below.refl _ _⟩

theorem checkMatte_eq (x y w h : Int) (n : Nat) : firstV (checkRegion x y w h) (whenV ((n : Int) != wrap64 (w * h)) 2) = checkMatte x y w h n := by
  unfold checkMatte firstV
  split
  · rename_i h0
    obtain ⟨b1, b2, b3, b4, _⟩ := checkRegion_ok h0
    rw [wrap_mul w h b1 b2 b3 b4]
    by_cases hn : (n : Int) = w * h <;> simp [hn, whenV]
  · rfl

set_option maxRecDepth 100000 in
set_option maxHeartbeats 1000000 in
theorem ref_MatteError (x y w h : Int) (a : Option Addr) (n c : Nat) (W : World) :
    Calls Try.prog 45 #[.agg #[.int .i64 x, .int .i64 y, .int .i64 w, .int .i64 h, .slice a n c]] W fun e w' => e = .returned (.int .i64 (checkMatte x y w h n)) ∧ Below W.heap.size W w' := by
  rw [← checkMatte_eq]
  go_enter Try.func45, Try.ntmps45
  go_wp2_with fail
  refine name_world ?_
  intro wb hwb
  have x0 : Bx wb W.heap.size 62 #[.int .i64 x, .int .i64 y, .int .i64 w, .int .i64 h, .slice a n c] := by rw [hwb]; exact Bx.new _ _ _
  have B1 : Below W.heap.size W wb := by rw [hwb]; exact bnew (Below.refl _ W)
  clear hwb
  obtain ⟨q0, f0, l0⟩ := x0.all
  refine wp_region_tail (fun z : BW wb.heap.size wb => z.w) 15 (by kernel_rfl) (by kernel_rfl) (BW.start _ _) rfl ?_
  simp only [List.take_succ_cons, List.take_zero, List.drop_succ_cons, List.drop_zero]
  repeat (go_big_quiet_step (first
    | (go_at_call 31; exact BW.call (Nat.le_refl _) _ (ref_RegionError _ _ _ _ _))
    | (go_at_call 107; exact BW.call_same _ (ref_When _ _ _))))
  refine wpQuiet_nil ?_
  intro z
  go_wp2_with fail
  refine (ref_First2 _ _ _ _ _ _ (Bx.new _ _ _)).mono ?_
  rintro e w2 ⟨rfl, hb2⟩
  go_wp2_with fail
  go_ret
  exact ⟨rfl, bcall (bnew (bcall B1 z.below)) hb2⟩
end Go.Proofs.Ytoffnmpnhddaiaa
