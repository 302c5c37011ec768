/- Names: conform.isName and dyeref1.IsName. -/
import Derived.WalkKit
import Derived.Test.YticekgnmiaidjaaGreatDoorMem
import Derived.Test.YticekgnmiaidjaaGreatDoorShelf
import Derived.Shelf.Strings.SlTrimAscii
namespace Go.Proofs.YticekgnmiaidjaaGreatDoor

section
def nameCs : List UInt8 := [97, 98, 99, 100, 101, 102, 103, 104, 105, 106, 107, 108, 109, 110, 111, 112, 113, 114, 115, 116, 117, 118, 119, 120, 121, 122, 65, 66, 67, 68, 69, 70].append [71, 72, 73, 74, 75, 76, 77, 78, 79, 80, 81, 82, 83, 84, 85, 86, 87, 88, 89, 90, 48, 49, 50, 51, 52, 53, 54, 55, 56, 57, 45, 46, 95]
/-- A byte of a name. -/
def okB (n : Nat) : Bool := (decide (97 ≤ n) && decide (n ≤ 122)) || (decide (65 ≤ n) && decide (n ≤ 90)) || (decide (48 ≤ n) && decide (n ≤ 57)) || decide (n = 45) || decide (n = 46) || decide (n = 95)
def nameB (s : ByteArray) : Bool := decide (0 < s.size) && decide (s.size ≤ 40) && s.data.toList.all fun c => okB c.toNat
end

section
open Go.RowKit

theorem nameCs_has (c : UInt8) : nameCs.contains c = okB c.toNat := by
  have h : ∀ n : Fin 256, nameCs.contains (UInt8.ofNat n.val) = okB (UInt8.ofNat n.val).toNat := by decide +kernel
  have := h ⟨c.toNat, c.toNat_lt⟩
  simpa using this
theorem dropWhile_nil (p : UInt8 → Bool) (l : List UInt8) : l.dropWhile p = [] ↔ l.all p = true := by
  induction l with
  | nil => simp
  | cons a r ih =>
    rw [List.dropWhile_cons, List.all_cons]
    cases h : p a
    · simp
    · simpa using ih
theorem trim_nil (l cs : List UInt8) : Lib.trimS l cs = [] ↔ l.all (cs.contains ·) = true := by
  unfold Lib.trimS Lib.trimLeftS Lib.trimRightS
  constructor
  · intro h
    by_cases hr : l.reverse.dropWhile (cs.contains ·) = []
    · have := (dropWhile_nil _ _).1 hr
      rwa [List.all_reverse] at this
    · exfalso
      have h1 := (dropWhile_nil _ _).1 h
      rw [List.all_reverse, List.all_eq_true] at h1
      have h2 := List.head_dropWhile_not (cs.contains ·) hr
      have h3 := h1 _ (List.head_mem hr)
      rw [h3] at h2
      cases h2
  · intro h
    have : l.reverse.dropWhile (cs.contains ·) = [] := (dropWhile_nil _ _).2 (by rwa [List.all_reverse])
    rw [this]; rfl

theorem trim_empty (s : ByteArray) : (Lib.trimS s.data.toList nameCs).isEmpty = s.data.toList.all fun c => okB c.toNat := by
  have e : (s.data.toList.all fun c => okB c.toNat) = s.data.toList.all (nameCs.contains ·) := by
    congr 1; funext c; exact (nameCs_has c).symm
  rw [e, Bool.eq_iff_iff, ← trim_nil, List.isEmpty_iff]
theorem empty_of (s : ByteArray) : s.toList.isEmpty = decide (s.size = 0) := by
  rw [Lib.toList_data, Lib.size_eq]
  cases s.data.toList <;> simp

set_option maxRecDepth 100000 in
set_option maxHeartbeats 2000000 in
theorem conform_isName (s : ByteArray) (W : World) : Calls Tryz.prog 51 #[.string s] W fun e w' => e = .returned (.bool (nameB s)) ∧ Below W.heap.size W w' := by
  have T := fun w (hs : s.size ≤ 9223372036854775807) => Any.strings_Trim_laid Tryz.lays160 (by kernel_rfl) s ⟨nameCs.toArray⟩ w hs (by decide) (ascii_of_all (by decide))
  have H := Lib.hid T
  clear T
  by_cases h0 : s.size = 0
  · have e0 : s.toList.isEmpty = true := by rw [empty_of]; simpa using h0
    have hr : nameB s = false := by simp [nameB, h0]
    rw [hr]
    go_enter Tryz.func51, Tryz.ntmps51
    go_wp2_with fail
    go_ret
    exact ⟨rfl, Below.refl _ _⟩
  by_cases h1 : 40 < s.size
  · have e0 : s.toList.isEmpty = false := by rw [empty_of]; simpa using h0
    have hr : nameB s = false := by simp [nameB]; omega
    have e1 : decide ((s.size : Int) ≤ 40) = false := by simp; omega
    rw [hr]
    go_enter Tryz.func51, Tryz.ntmps51
    go_wp2_with fail
    go_ret
    exact ⟨rfl, Below.refl _ _⟩
  have e0 : s.toList.isEmpty = false := by rw [empty_of]; simpa using h0
  have e1 : decide ((s.size : Int) ≤ 40) = true := by simp; omega
  have hr : nameB s = s.data.toList.all fun c => okB c.toNat := by
    have a : decide (0 < s.size) = true := by simp; omega
    have b : decide (s.size ≤ 40) = true := by simp; omega
    simp [nameB, a, b]
  rw [hr, ← trim_empty]
  go_enter Tryz.func51, Tryz.ntmps51
  go_wp2_with fail
  refine (H.out _ (by omega)).mono ?_
  rintro e w1 ⟨rfl, hb1⟩
  go_wp2_with fail
  go_ret
  exact ⟨rfl, hb1⟩

theorem getB (s : ByteArray) (k : Nat) (h : k < s.size) : (s.data.toList[k]?) = some s[k] := by
  rw [List.getElem?_eq_getElem (by rw [← Lib.size_eq]; exact h)]; rfl
theorem all_bad (s : ByteArray) (k : Nat) (h : k < s.size) (hb : okB (s[k]).toNat = false) : (s.data.toList.all fun c => okB c.toNat) = false := by
  rw [List.all_eq_false]
  exact ⟨s[k], List.mem_of_getElem? (getB s k h), by rw [hb]; simp⟩
theorem all_good (s : ByteArray) (h : ∀ k (hk : k < s.size), okB (s[k]).toNat = true) : (s.data.toList.all fun c => okB c.toNat) = true := by
  rw [List.all_eq_true]
  intro c hc
  obtain ⟨k, hk⟩ := List.getElem?_of_mem hc
  have hlt : k < s.size := by rw [Lib.size_eq]; exact (List.getElem?_eq_some_iff.1 hk).1
  rw [getB s k hlt] at hk
  cases hk
  exact h k hlt

set_option maxRecDepth 100000 in
set_option maxHeartbeats 4000000 in
theorem ref_IsName (s : ByteArray) (W : World) : Calls Tryz.prog 40 #[.string s] W fun e w' => e = .returned (.bool (nameB s)) ∧ Below W.heap.size W w' := by
  by_cases h0 : s.size = 0
  · have e0 : s.toList.isEmpty = true := by rw [empty_of]; simpa using h0
    have hr : nameB s = false := by simp [nameB, h0]
    rw [hr]
    go_enter Tryz.func40, Tryz.ntmps40
    go_wp2_with fail
    go_ret
    exact ⟨rfl, Below.refl _ _⟩
  have e0 : s.toList.isEmpty = false := by rw [empty_of]; simpa using h0
  by_cases h1 : 40 < s.size
  · have hr : nameB s = false := by simp [nameB]; omega
    have e1 : decide ((s.size : Int) > 40) = true := by simp; omega
    rw [hr]
    go_enter Tryz.func40, Tryz.ntmps40
    go_wp2_with fail
    go_ret
    exact ⟨rfl, Below.refl _ _⟩
  have e1 : decide ((s.size : Int) > 40) = false := by simp; omega
  have hr : nameB s = s.data.toList.all fun c => okB c.toNat := by
    have a : decide (0 < s.size) = true := by simp; omega
    have b : decide (s.size ≤ 40) = true := by simp; omega
    simp [nameB, a, b]
  rw [hr]
  obtain ⟨n, hn⟩ : ∃ n, n = s.size := ⟨_, rfl⟩
  have hn40 : n ≤ 40 := by omega
  have hbad := Lib.hid (fun k (hk : k < s.size) hb => all_bad s k hk hb)
  have hgood := Lib.hid (all_good s)
  generalize (s.data.toList.all fun c => okB c.toNat) = res at hbad hgood ⊢
  go_enter Tryz.func40, Tryz.ntmps40
  go_wp2_with fail
  go_loopw [14] (fun i wr => ∃ k : Nat, k ≤ n ∧ i = .int .i64 (k : Int) ∧ Hid (∀ j (hj : j < s.size), j < k → okB (s[j]).toNat = true) ∧ Below W.heap.size W wr) (fun i _ => n - (intOf i).toNat)
  case atStart => exact ⟨0, by omega, rfl, Lib.hid (fun j _ hj => by omega), Below.refl _ _⟩
  case round =>
    obtain ⟨k, hk, rfl, hok, hbl⟩ := hrel
    by_cases hlt : k < n
    · have hks : k < s.size := by omega
      have hki : (k : Int) < (s.size : Int) := by omega
      go_upto_region 7 with fail
      have hbk := hbad.out k hks
      have hok2 : okB (s[k]).toNat = true → ∀ j (hj : j < s.size), j < k + 1 → okB (s[j]).toNat = true := fun h j hj hjk => by
        rcases Nat.lt_or_eq_of_le (Nat.le_of_lt_succ hjk) with h2 | rfl
        · exact hok.out j hj h2
        · exact h
      have hc256 : (s[k]).toNat < 256 := (s[k]).toNat_lt
      generalize (s[k]).toNat = c at hbk hok2 hc256 ⊢
      have Hbk := Lib.hid hbk
      have Hok2 := Lib.hid hok2
      clear hbk hok2 hok
      have hcase : (c < 45 ∨ c = 47 ∨ (58 ≤ c ∧ c < 65) ∨ (91 ≤ c ∧ c < 95) ∨ c = 96 ∨ 123 ≤ c) ∨ (c = 45 ∨ c = 46 ∨ (48 ≤ c ∧ c < 58) ∨ (65 ≤ c ∧ c < 91) ∨ c = 95 ∨ (97 ≤ c ∧ c < 123)) := by omega
      rcases hcase with hcase | hcase
      · obtain rfl : res = false := Hbk.out (by simp only [okB]; simp; omega)
        rcases hcase with h | h | h | h | h | h
        all_goals
          first | have d97 : decide ((c : Int) < 97) = true := decide_eq_true (by omega) | have d97 : decide ((c : Int) < 97) = false := decide_eq_false (by omega)
          first | have d122 : decide (122 < (c : Int)) = true := decide_eq_true (by omega) | have d122 : decide (122 < (c : Int)) = false := decide_eq_false (by omega)
          first | have d65 : decide ((c : Int) < 65) = true := decide_eq_true (by omega) | have d65 : decide ((c : Int) < 65) = false := decide_eq_false (by omega)
          first | have d90 : decide (90 < (c : Int)) = true := decide_eq_true (by omega) | have d90 : decide (90 < (c : Int)) = false := decide_eq_false (by omega)
          first | have d48 : decide ((c : Int) < 48) = true := decide_eq_true (by omega) | have d48 : decide ((c : Int) < 48) = false := decide_eq_false (by omega)
          first | have d57 : decide (57 < (c : Int)) = true := decide_eq_true (by omega) | have d57 : decide (57 < (c : Int)) = false := decide_eq_false (by omega)
          first | have d45 : ((c : Int) != 45) = true := by simp; omega | have d45 : ((c : Int) != 45) = false := by simp; omega
          first | have d46 : ((c : Int) != 46) = true := by simp; omega | have d46 : ((c : Int) != 46) = false := by simp; omega
          first | have d95 : ((c : Int) != 95) = true := by simp; omega | have d95 : ((c : Int) != 95) = false := by simp; omega
          clear hc256
          try clear h
          go_wp2_with fail
          all_goals first
            | omega
            | (go_ret; exact ⟨rfl, hbl⟩)
      · have hk1 := Hok2.out (by simp only [okB]; simp; omega)
        have Hk1 := Lib.hid hk1
        clear hk1
        rcases hcase with h | h | h | h | h | h
        all_goals
          first | have d97 : decide ((c : Int) < 97) = true := decide_eq_true (by omega) | have d97 : decide ((c : Int) < 97) = false := decide_eq_false (by omega)
          first | have d122 : decide (122 < (c : Int)) = true := decide_eq_true (by omega) | have d122 : decide (122 < (c : Int)) = false := decide_eq_false (by omega)
          first | have d65 : decide ((c : Int) < 65) = true := decide_eq_true (by omega) | have d65 : decide ((c : Int) < 65) = false := decide_eq_false (by omega)
          first | have d90 : decide (90 < (c : Int)) = true := decide_eq_true (by omega) | have d90 : decide (90 < (c : Int)) = false := decide_eq_false (by omega)
          first | have d48 : decide ((c : Int) < 48) = true := decide_eq_true (by omega) | have d48 : decide ((c : Int) < 48) = false := decide_eq_false (by omega)
          first | have d57 : decide (57 < (c : Int)) = true := decide_eq_true (by omega) | have d57 : decide (57 < (c : Int)) = false := decide_eq_false (by omega)
          first | have d45 : ((c : Int) != 45) = true := by simp; omega | have d45 : ((c : Int) != 45) = false := by simp; omega
          first | have d46 : ((c : Int) != 46) = true := by simp; omega | have d46 : ((c : Int) != 46) = false := by simp; omega
          first | have d95 : ((c : Int) != 95) = true := by simp; omega | have d95 : ((c : Int) != 95) = false := by simp; omega
          clear hc256
          try clear h
          go_wp2_with fail
          all_goals first
            | omega
            | exact ⟨⟨k + 1, by omega, by go_num, Hk1, hbl⟩, by simp [intOf]; omega⟩
            | (go_roundw; exact ⟨⟨k + 1, by omega, by go_num, Hk1, hbl⟩, by simp [intOf]; omega⟩)
    · have hkn : (k : Int) = (s.size : Int) := by omega
      obtain rfl : res = true := hgood.out fun j hj => hok.out j hj (by omega)
      go_wp2_with fail
      go_ret
      exact ⟨rfl, hbl⟩
end
end Go.Proofs.YticekgnmiaidjaaGreatDoor
