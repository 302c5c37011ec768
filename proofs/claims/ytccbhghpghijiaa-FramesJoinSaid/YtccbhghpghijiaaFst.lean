/- dyeref2.First, for a list of whatever length. -/
import Derived.Test.YtccbhghpghijiaaMem
import Derived.RegionTactic
import Derived.BigGuardPart
namespace Go.Proofs.Ytccbhghpghijiaa
open Go.RowKit

/-- The first of errors that is one. -/
def firstL : List Int → Int
  | [] => 0
  | a :: l => if a = 0 then firstL l else a
theorem firstL_zero (l : List Int) (h : ∀ j, j < l.length → l.getD j 0 = 0) : firstL l = 0 := by
  induction l with
  | nil => rfl
  | cons a l ih =>
    have h0 := h 0 (by simp)
    simp at h0
    rw [firstL, if_pos h0]
    exact ih fun j hj => by have := h (j + 1) (by simpa using hj); simpa using this
theorem firstL_at (l : List Int) (k : Nat) (hk : k < l.length) (h : ∀ j, j < k → l.getD j 0 = 0) (hne : l.getD k 0 ≠ 0) : firstL l = l.getD k 0 := by
  induction l generalizing k with
  | nil => simp at hk
  | cons a l ih =>
    cases k with
    | zero => simp at hne; rw [firstL, if_neg hne]; simp
    | succ k =>
      have h0 := h 0 (by omega)
      simp at h0
      rw [firstL, if_pos h0, ih k (by simpa using hk) (fun j hj => by have := h (j + 1) (by omega); simpa using this) (by simpa using hne)]
      simp

set_option maxRecDepth 100000 in
set_option maxHeartbeats 1000000 in
theorem ref_FirstL (es : List Int) (g n c : Nat) (T : TypeId) (W : World) (hn : es.length = n) (hn2 : n ≤ 100000) (hg : Bx W g T (es.map (Value.int .i64)).toArray) :
    Calls Try.prog 35 #[.slice (some ⟨g, 0, none⟩) n c] W fun e w' => e = .returned (.int .i64 (firstL es)) ∧ Below W.heap.size W w' := by
  have Hn := Lib.hid hn
  clear hn
  go_enter Try.func35, Try.ntmps35
  go_wp2_with fail
  go_loopw [7] (fun i wr => ∃ k : Nat, k ≤ n ∧ i = .int .i64 (k : Int) ∧ (∀ j, j < k → es.getD j 0 = 0) ∧ Below W.heap.size W wr) (fun i _ => n - (intOf i).toNat)
  case atStart => exact ⟨0, by omega, rfl, fun j hj => by omega, Below.refl _ _⟩
  case round =>
    obtain ⟨k, hk, rfl, hall, hbl⟩ := hrel
    have Hall := Lib.hid hall
    clear hall
    by_cases hlt : k < n
    · have hki : (k : Int) < (n : Int) := by omega
      have x := hg.keep hbl
      have ck : wr.cell? ⟨g, k, none⟩ = some (.int .i64 (es.getD k 0)) := by
        rw [x.all.1 k]
        have : k < es.length := by rw [Hn.out]; exact hlt
        simp [this]
      have hat := fun h => firstL_at es k (by rw [Hn.out]; exact hlt) Hall.out h
      have hnx : es.getD k 0 = 0 → ∀ j, j < k + 1 → es.getD j 0 = 0 := fun h j hj => by
        rcases Nat.lt_or_eq_of_le (Nat.le_of_lt_succ hj) with h1 | rfl
        · exact Hall.out j h1
        · exact h
      have xl := x.lt
      generalize es.getD k 0 = ek at ck hat hnx
      have Hat := Lib.hid hat
      have Hnx := Lib.hid hnx
      clear hat hnx x
      by_cases he : ek = 0
      · subst he
        go_wp2_with fail
        go_roundw
        case rel => exact ⟨k + 1, by omega, by go_num, Hnx.out rfl, hbl⟩
        case measure => simp [intOf]; omega
      · go_wp2_with fail
        go_ret
        exact ⟨ret_int (Hat.out he).symm, hbl⟩
    · have hkn : k = n := by omega
      subst hkn
      go_wp2_with fail
      go_ret
      exact ⟨ret_int (firstL_zero es fun j hj => Hall.out j (by rw [Hn.out] at hj; exact hj)).symm, hbl⟩
end Go.Proofs.Ytccbhghpghijiaa
