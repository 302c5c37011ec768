/- Texts of notes; the new reviews; the note of a number. -/
import Derived.Test.YtilninaminaadaaGreatDoorRvS
import Derived.Lib.IndexLaws
namespace Go.Proofs.YtilninaminaadaaGreatDoor
open Go.RowKit

theorem gotB (s : ByteArray) (k : Nat) (h : k < s.size) : (s.data.toList[k]?) = some s[k] := by
  rw [List.getElem?_eq_getElem (by rw [← Lib.size_eq]; exact h)]; rfl
theorem low_bad (s : ByteArray) (k : Nat) (h : k < s.size) (hb : (s[k]).toNat < 32) : (s.data.toList.all fun c => decide (32 ≤ c.toNat)) = false := by
  rw [List.all_eq_false]
  exact ⟨s[k], List.mem_of_getElem? (gotB s k h), by simp; omega⟩
theorem low_good (s : ByteArray) (h : ∀ k (hk : k < s.size), 32 ≤ (s[k]).toNat) : (s.data.toList.all fun c => decide (32 ≤ c.toNat)) = true := by
  rw [List.all_eq_true]
  intro c hc
  obtain ⟨k, hk⟩ := List.getElem?_of_mem hc
  have hlt : k < s.size := by rw [Lib.size_eq]; exact (List.getElem?_eq_some_iff.1 hk).1
  rw [gotB s k hlt] at hk
  cases hk
  simpa using h k hlt

set_option maxRecDepth 100000 in
set_option maxHeartbeats 4000000 in
theorem conform_isText (s : ByteArray) (W : World) : Calls Tryz.prog 47 #[.string s] W fun e w' => e = .returned (.bool (textB s)) ∧ Below W.heap.size W w' := by
  by_cases h1 : 1000 < s.size
  · have hr : textB s = false := by simp [textB]; omega
    have e1 : decide ((s.size : Int) > 1000) = true := by simp; omega
    rw [hr]
    go_enter Tryz.func47, Tryz.ntmps47
    go_wp2_with fail
    go_ret
    exact ⟨rfl, Below.refl _ _⟩
  have e1 : decide ((s.size : Int) > 1000) = false := by simp; omega
  have hr : textB s = s.data.toList.all fun c => decide (32 ≤ c.toNat) := by
    have b : decide (s.size ≤ 1000) = true := by simp; omega
    simp [textB, b]
  rw [hr]
  clear hr
  obtain ⟨n, hn⟩ : ∃ n, n = s.size := ⟨_, rfl⟩
  have hn40 : n ≤ 1000 := by omega
  have hbad := Lib.hid (fun k (hk : k < s.size) hb => low_bad s k hk hb)
  have hgood := Lib.hid (low_good s)
  generalize (s.data.toList.all fun c => decide (32 ≤ c.toNat)) = res at hbad hgood ⊢
  go_enter Tryz.func47, Tryz.ntmps47
  go_wp2_with fail
  go_loopw [9] (fun i wr => ∃ k : Nat, k ≤ n ∧ i = .int .i64 (k : Int) ∧ Hid (∀ j (hj : j < s.size), j < k → 32 ≤ (s[j]).toNat) ∧ Below W.heap.size W wr) (fun i _ => n - (intOf i).toNat)
  case atStart => exact ⟨0, by omega, rfl, Lib.hid (fun j _ hj => by omega), Below.refl _ _⟩
  case round =>
    obtain ⟨k, hk, rfl, hok, hbl⟩ := hrel
    by_cases hlt : k < n
    · have hks : k < s.size := by omega
      have hki : (k : Int) < (s.size : Int) := by omega
      have hbk := hbad.out k hks
      have hok2 : 32 ≤ (s[k]).toNat → ∀ j (hj : j < s.size), j < k + 1 → 32 ≤ (s[j]).toNat := fun h j hj hjk => by
        rcases Nat.lt_or_eq_of_le (Nat.le_of_lt_succ hjk) with h2 | rfl
        · exact hok.out j hj h2
        · exact h
      have Hbad := hbad
      clear hbad hgood
      by_cases hc : (s[k]).toNat < 32
      · obtain rfl : res = false := hbk hc
        clear hok2 hok hbk Hbad
        go_wp2_with fail
        all_goals first
          | omega
          | (go_ret; exact ⟨rfl, hbl⟩)
      · have hk1 := Lib.hid (hok2 (by omega))
        clear hok2 hok hbk
        go_wp2_with fail
        all_goals try omega
        go_roundw
        case rel => exact ⟨k + 1, by omega, by go_num, hk1, hbl⟩
        case measure => simp [intOf]; omega
    · obtain rfl : k = n := by omega
      obtain rfl : res = true := hgood.out (fun j hj => hok.out j hj (by omega))
      have hki : ¬ (k : Int) < (s.size : Int) := by omega
      clear hok hbad hgood
      go_wp2_with fail
      go_ret
      exact ⟨rfl, hbl⟩

theorem text_low (s : ByteArray) (k : Nat) (h : k < s.size) (hb : (s[k]).toNat < 32) : textB s = false := by
  unfold textB
  rw [low_bad s k h hb, Bool.and_false]
theorem text_good (s : ByteArray) (h : ∀ k (hk : k < s.size), 32 ≤ (s[k]).toNat) : textB s = decide (s.size ≤ 1000) := by
  unfold textB
  rw [low_good s h, Bool.and_true]

set_option maxRecDepth 100000 in
set_option maxHeartbeats 4000000 in
theorem ref_IsText (s : ByteArray) (hs : s.size ≤ 9223372036854775807) (W : World) : Calls Tryz.prog 49 #[.string s] W fun e w' => e = .returned (.bool (textB s)) ∧ Below W.heap.size W w' := by
  obtain ⟨n, hn⟩ : ∃ n, n = s.size := ⟨_, rfl⟩
  have hbad := Lib.hid (fun k (hk : k < s.size) hb => text_low s k hk hb)
  have hgood := Lib.hid (text_good s)
  generalize textB s = res at hbad hgood ⊢
  go_enter Tryz.func49, Tryz.ntmps49
  go_wp2_with fail
  go_loopw [6] (fun i wr => ∃ k : Nat, k ≤ n ∧ i = .int .i64 (k : Int) ∧ Hid (∀ j (hj : j < s.size), j < k → 32 ≤ (s[j]).toNat) ∧ Below W.heap.size W wr) (fun i _ => n - (intOf i).toNat)
  case atStart => exact ⟨0, by omega, rfl, Lib.hid (fun j _ hj => by omega), Below.refl _ _⟩
  case round =>
    obtain ⟨k, hk, rfl, hok, hbl⟩ := hrel
    by_cases hlt : k < n
    · have hks : k < s.size := by omega
      have hki : (k : Int) < (s.size : Int) := by omega
      have hbk := hbad.out k hks
      have hok2 : 32 ≤ (s[k]).toNat → ∀ j (hj : j < s.size), j < k + 1 → 32 ≤ (s[j]).toNat := fun h j hj hjk => by
        rcases Nat.lt_or_eq_of_le (Nat.le_of_lt_succ hjk) with h2 | rfl
        · exact hok.out j hj h2
        · exact h
      have Hbad := hbad
      clear hbad hgood
      by_cases hc : (s[k]).toNat < 32
      · obtain rfl : res = false := hbk hc
        clear hok2 hok hbk Hbad
        go_wp2_with fail
        all_goals first
          | omega
          | (go_ret; exact ⟨rfl, hbl⟩)
      · have hk1 := Lib.hid (hok2 (by omega))
        clear hok2 hok hbk
        go_wp2_with fail
        all_goals try omega
        go_roundw
        case rel => exact ⟨k + 1, by omega, by go_num, hk1, hbl⟩
        case measure => simp [intOf]; omega
    · obtain rfl : k = n := by omega
      obtain rfl : res = decide (s.size ≤ 1000) := hgood.out (fun j hj => hok.out j hj (by omega))
      have hki : ¬ (k : Int) < (s.size : Int) := by omega
      clear hok hbad hgood
      go_wp2_with fail
      go_ret
      refine ⟨?_, hbl⟩
      congr 1
      simp
      omega

theorem text_empty (s : ByteArray) : s.toList.isEmpty = decide (s.size = 0) := by
  rw [Lib.toList_data, Lib.size_eq]
  cases s.data.toList <;> simp

set_option maxRecDepth 100000 in
set_option maxHeartbeats 2000000 in
theorem conform_NewReview (W : World) : Calls Tryz.prog 6 #[] W fun e w' => e = .returned (.pointer (some ⟨W.heap.size + 1, 0, none⟩)) ∧ VO w' (W.heap.size + 1) newV (fun b => b = W.heap.size + 1 ∨ b = W.heap.size) (.slice none 0 0) W.heap.size (fun _ => .slice none 0 0) ∧ Below W.heap.size W w' := by
  have hm := run_makeMap_t
  go_enter Tryz.func6, Tryz.ntmps6
  go_wp2_with fail
  go_ret
  have hx := (MapT.new W).keep ((Below.refl _ _).alloc (Nat.le_refl _) (.cells #[.slice none 0 0, .map (some W.heap.size), .int .i64 0] 47))
  refine ⟨rfl, ⟨Bx.at _ (by simp), RowN.nil _ _ _ _, fun k hk => (by simp [newV] at hk), fun j k hj => (by simp [newV] at hj), hx, .inl rfl, .inr rfl, fun b hb => (by cases hb), fun k hk => (by simp [newV] at hk), fun b hb => ?_⟩, bnew (bnew (Below.refl _ _))⟩
  rcases hb with rfl | rfl <;> simp <;> omega
set_option maxRecDepth 100000 in
set_option maxHeartbeats 2000000 in
theorem ref_NewReview (W : World) : Calls Tryz.prog 7 #[] W fun e w' => e = .returned (.pointer (some ⟨W.heap.size + 1, 0, none⟩)) ∧ RO w' (W.heap.size + 1) newV (fun b => b = W.heap.size + 1 ∨ b = W.heap.size) (.slice none 0 0) (.slice none 0 0) (.slice none 0 0) W.heap.size (fun _ => .slice none 0 0) ∧ Below W.heap.size W w' := by
  have hm := run_makeMap_t
  go_enter Tryz.func7, Tryz.ntmps7
  go_wp2_with fail
  go_ret
  have hx := (MapT.new W).keep ((Below.refl _ _).alloc (Nat.le_refl _) (.cells #[.slice none 0 0, .slice none 0 0, .slice none 0 0, .map (some W.heap.size), .int .i64 0] 51))
  refine ⟨rfl, ⟨Bx.at _ (by simp), RowN.nil _ _ _ _, RowN.nil _ _ _ _, RowN.nil _ _ _ _, fun k hk => (by simp [newV] at hk), hx, .inl rfl, .inr rfl, fun b hb => by (cases hb), fun b hb => by (cases hb), fun b hb => by (cases hb), fun k hk => (by simp [newV] at hk), fun b hb => ?_⟩, bnew (bnew (Below.refl _ _))⟩
  rcases hb with rfl | rfl <;> simp <;> omega

set_option maxRecDepth 100000 in
set_option maxHeartbeats 4000000 in
theorem conform_find (p g cap n0 : Nat) (n : Int) (mv cv : Value) (W : World) (x : Bx W p 47 #[.slice (some ⟨g, 0, none⟩) n0 cap, mv, cv]) (h1 : 1 ≤ n) (h2 : n ≤ n0) (hl : n0 ≤ 2000) :
    Calls Tryz.prog 50 #[.pointer (some ⟨p, 0, none⟩), .int .i64 n] W fun e w' => e = .returned (.tuple #[.pointer (some ⟨g, ntI n * 9, none⟩), .bool true]) ∧ Below W.heap.size W w' := by
  obtain ⟨q, f, l⟩ := x.all
  obtain ⟨k, rfl⟩ : ∃ k : Nat, n = (k : Int) + 1 := ⟨(n - 1).toNat, by omega⟩
  have hk : ntI ((k : Int) + 1) = k := by unfold ntI; omega
  rw [hk]
  clear x
  go_enter Tryz.func50, Tryz.ntmps50
  go_wp2_with fail
  all_goals try omega
  go_ret2
  exact ⟨rfl, Below.refl _ _⟩
set_option maxRecDepth 100000 in
set_option maxHeartbeats 4000000 in
theorem conform_find_none (p cap n0 : Nat) (a : Option Addr) (n : Int) (mv cv : Value) (W : World) (x : Bx W p 47 #[.slice a n0 cap, mv, cv]) (h1 : n < 1 ∨ (n0 : Int) < n) :
    Calls Tryz.prog 50 #[.pointer (some ⟨p, 0, none⟩), .int .i64 n] W fun e w' => e = .returned (.tuple #[.pointer none, .bool false]) ∧ Below W.heap.size W w' := by
  obtain ⟨q, f, l⟩ := x.all
  clear x
  go_enter Tryz.func50, Tryz.ntmps50
  go_wp2_with fail
  all_goals try omega
  all_goals (go_ret2; exact ⟨rfl, Below.refl _ _⟩)
end Go.Proofs.YtilninaminaadaaGreatDoor
