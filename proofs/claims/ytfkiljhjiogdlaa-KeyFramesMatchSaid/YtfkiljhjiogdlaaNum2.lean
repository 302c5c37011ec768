/- All of several singles are numbers: the program's and the reference's answer. -/
import Derived.Test.YtfkiljhjiogdlaaNum
namespace Go.Proofs.Ytfkiljhjiogdlaa
open Go.RowKit

theorem all_take (p : Nat → Bool) (xs : List Nat) (k : Nat) (h : k < xs.length) : (xs.take (k + 1)).all p = ((xs.take k).all p && p (xs.getD k 0)) := by
  rw [List.take_succ_eq_append_getElem h, List.all_append]
  simp [h]
theorem all_not (p : Nat → Bool) (xs : List Nat) (k : Nat) (h : k < xs.length) (hp : p (xs.getD k 0) = false) : xs.all p = false := by
  rw [List.all_eq_false]
  exact ⟨xs.getD k 0, by simp [h], fun e => by rw [hp] at e; cases e⟩

set_option maxRecDepth 100000 in
set_option maxHeartbeats 1000000 in
theorem num_AllNumbers (xs : List Nat) (b n c : Nat) (W : World) (hn : xs.length = n) (hn2 : n ≤ 100000) (hrd : Rd W b 0 xs) :
    Calls Try.prog 70 #[.slice (some ⟨b, 0, none⟩) n c] W fun e w' => e = .returned (.bool (xs.all isNum)) ∧ Below W.heap.size W w' := by
  have Hn := Lib.hid hn
  clear hn
  go_enter Try.func70, Try.ntmps70
  go_wp2_with fail
  go_loopw [7] (fun i wr => ∃ k : Nat, k ≤ n ∧ i = .int .i64 (k : Int) ∧ (xs.take k).all isNum = true ∧ Below W.heap.size W wr) (fun i _ => n - (intOf i).toNat)
  case atStart => exact ⟨0, by omega, rfl, by simp, Below.refl _ _⟩
  case round =>
    obtain ⟨k, hk, rfl, hall, hbl⟩ := hrel
    have Hall := Lib.hid hall
    clear hall
    by_cases hlt : k < n
    · have hki : (k : Int) < (n : Int) := by omega
      have ck := (hrd.keep hbl).cell0 k (by rw [Hn.out]; exact hlt)
      have h1 := all_take isNum xs k (by rw [Hn.out]; exact hlt)
      rw [Hall.out, Bool.true_and] at h1
      have h2 := all_not isNum xs k (by rw [Hn.out]; exact hlt)
      generalize xs.getD k 0 = z at *
      have H1 := Lib.hid h1
      have H2 := Lib.hid h2
      clear h1 h2
      go_wp2_with fail
      refine (num_IsNumber _ _).mono ?_
      rintro e w' ⟨rfl, rfl⟩
      cases hz : isNum z
      · have Hz := Lib.hid hz
        clear hz
        go_wp2_with fail
        go_ret
        exact ⟨ret_bool (H2.out Hz.out).symm, hbl⟩
      · have Hz := Lib.hid hz
        clear hz
        go_wp2_with fail
        go_roundw
        case rel => exact ⟨k + 1, by omega, by go_num, by rw [H1.out, Hz.out], hbl⟩
        case measure => simp [intOf]; omega
    · have hkn : k = n := by omega
      subst hkn
      go_wp2_with fail
      go_ret
      exact ⟨ret_bool (by have := Hall.out; rw [List.take_of_length_le (by rw [Hn.out]; omega)] at this; exact this.symm), hbl⟩

set_option maxRecDepth 100000 in
set_option maxHeartbeats 1000000 in
theorem ref_Numbers (xs : List Nat) (b n c : Nat) (W : World) (hn : xs.length = n) (hn2 : n ≤ 100000) (hrd : Rd W b 0 xs) :
    Calls Try.prog 79 #[.slice (some ⟨b, 0, none⟩) n c] W fun e w' => e = .returned (.bool (xs.all isNum)) ∧ Below W.heap.size W w' := by
  have Hn := Lib.hid hn
  clear hn
  go_enter Try.func79, Try.ntmps79
  go_wp2_with fail
  go_loopw [7] (fun i wr => ∃ k : Nat, k ≤ n ∧ i = .int .i64 (k : Int) ∧ (xs.take k).all isNum = true ∧ Below W.heap.size W wr) (fun i _ => n - (intOf i).toNat)
  case atStart => exact ⟨0, by omega, rfl, by simp, Below.refl _ _⟩
  case round =>
    obtain ⟨k, hk, rfl, hall, hbl⟩ := hrel
    have Hall := Lib.hid hall
    clear hall
    by_cases hlt : k < n
    · have hki : (k : Int) < (n : Int) := by omega
      have ck := (hrd.keep hbl).cell0 k (by rw [Hn.out]; exact hlt)
      have h1 := all_take isNum xs k (by rw [Hn.out]; exact hlt)
      rw [Hall.out, Bool.true_and] at h1
      have h2 := all_not isNum xs k (by rw [Hn.out]; exact hlt)
      generalize xs.getD k 0 = z at *
      have H1 := Lib.hid h1
      have H2 := Lib.hid h2
      clear h1 h2
      go_wp2_with fail
      refine (ref_IsNumber _ _).mono ?_
      rintro e w2 ⟨rfl, hb2⟩
      cases hz : isNum z
      · have Hz := Lib.hid hz
        clear hz
        go_wp2_with fail
        go_ret
        exact ⟨ret_bool (H2.out Hz.out).symm, (bcall hbl hb2)⟩
      · have Hz := Lib.hid hz
        clear hz
        go_wp2_with fail
        go_roundw
        case rel => exact ⟨k + 1, by omega, by go_num, by rw [H1.out, Hz.out], (bcall hbl hb2)⟩
        case measure => simp [intOf]; omega
    · have hkn : k = n := by omega
      subst hkn
      go_wp2_with fail
      go_ret
      exact ⟨ret_bool (by have := Hall.out; rw [List.take_of_length_le (by rw [Hn.out]; omega)] at this; exact this.symm), hbl⟩
end Go.Proofs.Ytfkiljhjiogdlaa
