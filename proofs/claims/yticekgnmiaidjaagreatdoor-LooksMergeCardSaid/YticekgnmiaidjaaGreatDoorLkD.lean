/- conform.alike and dyeref1.SameGrades: the texts of two lists of right grades compared. (printed by gen_lkd.py) -/
import Derived.Test.YticekgnmiaidjaaGreatDoorLkC
import Derived.Test.YticekgnmiaidjaaGreatDoorNuN
namespace Go.Proofs.YticekgnmiaidjaaGreatDoor
open Go.RowKit Go.Lib

/-- Two lists of grades have the same text. -/
def simG (A B : List Gd) : Bool := (linesG A).toList == (linesG B).toList
theorem simG_iff (A B : List Gd) : simG A B = true ↔ linesG A = linesG B := by
  unfold simG
  constructor
  · intro h
    have h1 := eq_of_beq h
    rw [ByteArray.toList_eq, ByteArray.toList_eq] at h1
    exact ByteArray.ext (Array.toList_inj.1 h1)
  · intro h; rw [h]; exact beq_self_eq_true _
/-- A right list of grades whose singles are words. -/
structure RightL (gs : List Gd) : Prop where
  err : gradesErr gs = 0
  wd : ∀ g ∈ gs, GdW g
theorem RightL.small {gs : List Gd} (h : RightL gs) : gs.length ≤ 64 ∧ ∀ g ∈ gs, gradeErr g = 0 := by
  have he := h.err
  unfold gradesErr at he
  by_cases h : 64 < gs.length
  · rw [if_pos h] at he; cases he
  · rw [if_neg h] at he
    exact ⟨by omega, firstErr_zero he⟩
set_option maxRecDepth 100000 in
set_option maxHeartbeats 4000000 in
theorem conform_alike (va vb : Value) (A B : List Gd) (W : World) (E : EnvF W) (hA : SlG W va A) (hB : SlG W vb B) (ra : RightL A) (rb : RightL B) :
    Calls Tryz.prog 56 #[va, vb] W fun e w' => e = .returned (.bool (simG A B)) ∧ Below W.heap.size W w' := by
  have KA := Lib.hid (fun u (hu : Below W.heap.size W u) => grade_Print va A u (E.below hu) (hA.keep hu) ra.err ra.wd)
  have KB := Lib.hid (fun u (hu : Below W.heap.size W u) => grade_Print vb B u (E.below hu) (hB.keep hu) rb.err rb.wd)
  obtain ⟨a1, c1, rfl, _⟩ := hA
  obtain ⟨a2, c2, rfl, _⟩ := hB
  clear E ra rb
  generalize A.length = na at *
  generalize B.length = nb at *
  go_enter Tryz.func56, Tryz.ntmps56
  go_wp2_with fail
  refine (KA.out _ (Below.refl _ _)).mono ?_
  rintro e w1 ⟨rfl, hb1⟩
  have HB1 := Lib.hid hb1
  clear hb1
  go_wp2_with fail
  refine (KB.out _ HB1.out).mono ?_
  rintro e w2 ⟨rfl, hb2⟩
  have HB2 := Lib.hid (bcall HB1.out hb2)
  clear hb2
  go_wp2_with fail
  go_ret
  exact ⟨rfl, HB2.out⟩
set_option maxRecDepth 100000 in
set_option maxHeartbeats 4000000 in
theorem print_none (a : Option Addr) (c : Nat) (W : World) : Calls Tryz.prog 36 #[.slice a 0 c] W fun e w' => e = .returned (.string (linesG [])) ∧ Below W.heap.size W w' := by
  go_enter Tryz.func36, Tryz.ntmps36
  go_wp2_with fail
  go_loopw [3, 15] (fun s3 i wr => i = .int .i64 0 ∧ s3 = .string (linesG []) ∧ wr = W) (fun _ _ _ => 0)
  case atStart => exact ⟨rfl, rfl, by trivial⟩
  case round =>
    obtain ⟨rfl, rfl, rfl⟩ := hrel
    go_wp2_with fail
    go_ret
    exact ⟨rfl, Below.refl _ _⟩
theorem ref_PrintSl (v : Value) (gs : List Gd) (W : World) (E : EnvF W) (h : SlG W v gs) (r : RightL gs) : Calls Tryz.prog 36 #[v] W fun e w' => e = .returned (.string (linesG gs)) ∧ Below W.heap.size W w' := by
  have hs := h
  obtain ⟨a, c, rfl, _, _, h0 | ⟨b, o, rfl, hl, hG⟩⟩ := h
  · rw [h0]; exact print_none a c W
  · refine ref_PrintGrades gs W E b o gs.length c hl hG (fun g hg => ?_) rfl (by have := r.small.1; omega)
    obtain ⟨k, hk⟩ := List.mem_iff_getElem?.1 hg
    obtain ⟨_, _, _, C, _, hC, _⟩ := hs.row (Below.refl _ _) hk
    exact gdOk (right_of (r.small.2 g hg)) (r.wd g hg) hC.pts.1
set_option maxRecDepth 100000 in
set_option maxHeartbeats 4000000 in
theorem ref_SameGrades (va vb : Value) (A B : List Gd) (W : World) (E : EnvF W) (hA : SlG W va A) (hB : SlG W vb B) (ra : RightL A) (rb : RightL B) :
    Calls Tryz.prog 48 #[va, vb] W fun e w' => e = .returned (.bool (simG A B)) ∧ Below W.heap.size W w' := by
  have KA := Lib.hid (fun u (hu : Below W.heap.size W u) => ref_PrintSl va A u (E.below hu) (hA.keep hu) ra)
  have KB := Lib.hid (fun u (hu : Below W.heap.size W u) => ref_PrintSl vb B u (E.below hu) (hB.keep hu) rb)
  obtain ⟨a1, c1, rfl, _⟩ := hA
  obtain ⟨a2, c2, rfl, _⟩ := hB
  clear E ra rb
  generalize A.length = na at *
  generalize B.length = nb at *
  go_enter Tryz.func48, Tryz.ntmps48
  go_wp2_with fail
  refine (KA.out _ (Below.refl _ _)).mono ?_
  rintro e w1 ⟨rfl, hb1⟩
  have HB1 := Lib.hid hb1
  clear hb1
  go_wp2_with fail
  refine (KB.out _ HB1.out).mono ?_
  rintro e w2 ⟨rfl, hb2⟩
  have HB2 := Lib.hid (bcall HB1.out hb2)
  clear hb2
  go_wp2_with fail
  go_ret
  exact ⟨rfl, HB2.out⟩
end Go.Proofs.YticekgnmiaidjaaGreatDoor
