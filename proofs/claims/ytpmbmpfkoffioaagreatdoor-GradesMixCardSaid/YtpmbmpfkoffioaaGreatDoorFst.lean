/- dyeref2.First, for a list of whatever length. -/
import Derived.Test.YtpmbmpfkoffioaaGreatDoorMem
import Derived.RegionTactic
import Derived.BigGuardPart
namespace Go.Proofs.YtpmbmpfkoffioaaGreatDoor

section
open Go.RowKit

/-- Lerp, behind Clean. -/
def lerpV (a b t : Nat) : Nat := if (FloatKind.f32.format.order t 0 == some .eq) = true then canon a else if (FloatKind.f32.format.order t 1065353216 == some .eq) = true then canon b else fop .add a (fop .mul (fop .sub b a) t)
theorem canon_lerpV (a b t : Nat) : canon (lerpV a b t) = lerpV a b t := by
  unfold lerpV
  split
  · exact canon_idem _
  · split
    · exact canon_idem _
    · exact canon_fop _ _ _

set_option maxRecDepth 100000 in
set_option maxHeartbeats 1000000 in
theorem num_Lerp (a b t : Nat) (W : World) : Calls Tryz.prog 13 #[.float .f32 a, .float .f32 b, .float .f32 t] W fun e w' => e = .returned (.float .f32 (lerpV a b t)) ∧ Below W.heap.size W w' := by
  cases h0 : (FloatKind.f32.format.order t 0 == some .eq)
  · cases h1 : (FloatKind.f32.format.order t 1065353216 == some .eq)
    · have HH := Lib.hid (And.intro h0 h1)
      go_enter Tryz.func13, Tryz.ntmps13
      go_wp2_with (go_at_call 25; refine (num_Clean _ _).mono ?_; rintro e w' ⟨rfl, rfl⟩)
      go_ret
      refine ⟨ret_f32 ?_, ?_⟩
      · rw [canon_fres, fop_fres_right, ← fop_canon_right, canon_fop, fop_fres_left]
        simp [lerpV, HH.out]
      · repeat (refine below_drewN ?_ _)
        exact Below.refl _ _
    · have HH := Lib.hid (And.intro h0 h1)
      go_enter Tryz.func13, Tryz.ntmps13
      go_wp2_with (go_at_call 25; refine (num_Clean _ _).mono ?_; rintro e w' ⟨rfl, rfl⟩)
      go_ret
      exact ⟨ret_f32 (by simp [lerpV, HH.out]), Below.refl _ _⟩
  · have HH := Lib.hid h0
    go_enter Tryz.func13, Tryz.ntmps13
    go_wp2_with (go_at_call 25; refine (num_Clean _ _).mono ?_; rintro e w' ⟨rfl, rfl⟩)
    go_ret
    exact ⟨ret_f32 (by simp [lerpV, HH.out]), Below.refl _ _⟩

set_option maxRecDepth 100000 in
set_option maxHeartbeats 1000000 in
theorem ref_LerpOf (a b t : Nat) (W : World) : Calls Tryz.prog 20 #[.float .f32 a, .float .f32 b, .float .f32 t] W fun e w' => e = .returned (.float .f32 (lerpV a b t)) ∧ Below W.heap.size W w' := by
  cases h0 : (FloatKind.f32.format.order t 0 == some .eq)
  · cases h1 : (FloatKind.f32.format.order t 1065353216 == some .eq)
    · have HH := Lib.hid (And.intro h0 h1)
      go_enter Tryz.func20, Tryz.ntmps20
      go_wp2_with (go_at_call 19; refine (ref_Fix _ _).mono ?_; rintro e w' ⟨rfl, rfl⟩)
      go_ret
      refine ⟨ret_f32 ?_, ?_⟩
      · rw [canon_fres, fop_fres_right, ← fop_canon_right, canon_fop, fop_fres_left]
        simp [lerpV, HH.out]
      · repeat (refine below_drewN ?_ _)
        exact Below.refl _ _
    · have HH := Lib.hid (And.intro h0 h1)
      go_enter Tryz.func20, Tryz.ntmps20
      go_wp2_with (go_at_call 19; refine (ref_Fix _ _).mono ?_; rintro e w' ⟨rfl, rfl⟩)
      go_ret
      exact ⟨ret_f32 (by simp [lerpV, HH.out]), Below.refl _ _⟩
  · have HH := Lib.hid h0
    go_enter Tryz.func20, Tryz.ntmps20
    go_wp2_with (go_at_call 19; refine (ref_Fix _ _).mono ?_; rintro e w' ⟨rfl, rfl⟩)
    go_ret
    exact ⟨ret_f32 (by simp [lerpV, HH.out]), Below.refl _ _⟩
end

section
open Go.RowKit

/-- The first of errors that is one. -/
def firstL : List Int → Int
  | [] => 0
  | a :: l => if a = 0 then firstL l else a
theorem firstL_zero (l : List Int) (h : ∀ j, j < l.length → l.getD j 0 = 0) : firstL l = 0 := by
  induction l with
  | nil => rfl
  | cons a l ih =>
    have h0 := h 0 (by simp)
    simp at h0
    rw [firstL, if_pos h0]
    exact ih fun j hj => by have := h (j + 1) (by simpa using hj); simpa using this
theorem firstL_at (l : List Int) (k : Nat) (hk : k < l.length) (h : ∀ j, j < k → l.getD j 0 = 0) (hne : l.getD k 0 ≠ 0) : firstL l = l.getD k 0 := by
  induction l generalizing k with
  | nil => simp at hk
  | cons a l ih =>
    cases k with
    | zero => simp at hne; rw [firstL, if_neg hne]; simp
    | succ k =>
      have h0 := h 0 (by omega)
      simp at h0
      rw [firstL, if_pos h0, ih k (by simpa using hk) (fun j hj => by have := h (j + 1) (by omega); simpa using this) (by simpa using hne)]
      simp

set_option maxRecDepth 100000 in
set_option maxHeartbeats 1000000 in
theorem ref_FirstL (es : List Int) (g n c : Nat) (T : TypeId) (W : World) (hn : es.length = n) (hn2 : n ≤ 100000) (hg : Bx W g T (es.map (Value.int .i64)).toArray) :
    Calls Tryz.prog 15 #[.slice (some ⟨g, 0, none⟩) n c] W fun e w' => e = .returned (.int .i64 (firstL es)) ∧ Below W.heap.size W w' := by
  have Hn := Lib.hid hn
  clear hn
  go_enter Tryz.func15, Tryz.ntmps15
  go_wp2_with fail
  go_loopw [7] (fun i wr => ∃ k : Nat, k ≤ n ∧ i = .int .i64 (k : Int) ∧ (∀ j, j < k → es.getD j 0 = 0) ∧ Below W.heap.size W wr) (fun i _ => n - (intOf i).toNat)
  case atStart => exact ⟨0, by omega, rfl, fun j hj => by omega, Below.refl _ _⟩
  case round =>
    obtain ⟨k, hk, rfl, hall, hbl⟩ := hrel
    have Hall := Lib.hid hall
    clear hall
    by_cases hlt : k < n
    · have hki : (k : Int) < (n : Int) := by omega
      have x := hg.keep hbl
      have ck : wr.cell? ⟨g, k, none⟩ = some (.int .i64 (es.getD k 0)) := by
        rw [x.all.1 k]
        have : k < es.length := by rw [Hn.out]; exact hlt
        simp [this]
      have hat := fun h => firstL_at es k (by rw [Hn.out]; exact hlt) Hall.out h
      have hnx : es.getD k 0 = 0 → ∀ j, j < k + 1 → es.getD j 0 = 0 := fun h j hj => by
        rcases Nat.lt_or_eq_of_le (Nat.le_of_lt_succ hj) with h1 | rfl
        · exact Hall.out j h1
        · exact h
      have xl := x.lt
      generalize es.getD k 0 = ek at ck hat hnx
      have Hat := Lib.hid hat
      have Hnx := Lib.hid hnx
      clear hat hnx x
      by_cases he : ek = 0
      · subst he
        go_wp2_with fail
        go_roundw
        case rel => exact ⟨k + 1, by omega, by go_num, Hnx.out rfl, hbl⟩
        case measure => simp [intOf]; omega
      · go_wp2_with fail
        go_ret
        exact ⟨ret_int (Hat.out he).symm, hbl⟩
    · have hkn : k = n := by omega
      subst hkn
      go_wp2_with fail
      go_ret
      exact ⟨ret_int (firstL_zero es fun j hj => Hall.out j (by rw [Hn.out] at hj; exact hj)).symm, hbl⟩
end
end Go.Proofs.YtpmbmpfkoffioaaGreatDoor
