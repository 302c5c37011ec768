/- Sketch: its error, plain; slices.ContainsFunc at its closure. -/
import Derived.Test.YtjicgbpnplmpbaaDoorBld
import Derived.Test.YtjicgbpnplmpbaaDoorOpnI
namespace Go.Proofs.YtjicgbpnplmpbaaDoor
open Go.RowKit

/-- A count that Sketch does not take. -/
def badI (n : Int) : Bool := decide (n < 0) || decide (16777216 < n)
def skErr (ns : List Int) (height : Int) : Int := if ns.length = 0 then 10 else if 1024 < ns.length then 4 else if (decide (height < 1) || decide (64 < height) || ns.any badI) = true then 3 else 0

theorem maxOf_ge (ns : List Int) : ∀ k, 0 < k → k ≤ ns.length → (∀ j, j < k → ns.getD j 0 ≤ Lib.maxOf (ns.take k)) ∧ (∃ j, j < k ∧ Lib.maxOf (ns.take k) = ns.getD j 0)
  | 0, h, _ => by omega
  | 1, _, _ => by
    rw [Lib.maxOf_one]
    refine ⟨fun j hj => ?_, 0, by omega, rfl⟩
    obtain rfl : j = 0 := by omega
    exact Int.le_refl _
  | k + 2, _, hk => by
    obtain ⟨h1, j0, h2, h3⟩ := maxOf_ge ns (k + 1) (by omega) (by omega)
    rw [Lib.maxOf_step ns (k + 1) (by omega) (by omega)]
    refine ⟨fun j hj => ?_, ?_⟩
    · rcases Nat.lt_or_eq_of_le (Nat.le_of_lt_succ hj) with h | rfl
      · have := h1 j h; omega
      · omega
    · rcases Int.le_total (Lib.maxOf (ns.take (k + 1))) (ns.getD (k + 1) 0) with h | h
      · exact ⟨k + 1, by omega, by omega⟩
      · exact ⟨j0, by omega, by omega⟩
theorem minOf_le (ns : List Int) : ∀ k, 0 < k → k ≤ ns.length → (∀ j, j < k → Lib.minOf (ns.take k) ≤ ns.getD j 0) ∧ (∃ j, j < k ∧ Lib.minOf (ns.take k) = ns.getD j 0)
  | 0, h, _ => by omega
  | 1, _, _ => by
    rw [Lib.minOf_one]
    refine ⟨fun j hj => ?_, 0, by omega, rfl⟩
    obtain rfl : j = 0 := by omega
    exact Int.le_refl _
  | k + 2, _, hk => by
    obtain ⟨h1, j0, h2, h3⟩ := minOf_le ns (k + 1) (by omega) (by omega)
    rw [Lib.minOf_step ns (k + 1) (by omega) (by omega)]
    refine ⟨fun j hj => ?_, ?_⟩
    · rcases Nat.lt_or_eq_of_le (Nat.le_of_lt_succ hj) with h | rfl
      · have := h1 j h; omega
      · omega
    · rcases Int.le_total (Lib.minOf (ns.take (k + 1))) (ns.getD (k + 1) 0) with h | h
      · exact ⟨j0, by omega, by omega⟩
      · exact ⟨k + 1, by omega, by omega⟩
theorem any_bad (ns : List Int) (h : 0 < ns.length) : ns.any badI = (decide (Lib.minOf ns < 0) || decide (16777216 < Lib.maxOf ns)) := by
  obtain ⟨a1, j1, a2, a3⟩ := maxOf_ge ns ns.length h (Nat.le_refl _)
  obtain ⟨b1, j2, b2, b3⟩ := minOf_le ns ns.length h (Nat.le_refl _)
  rw [List.take_length] at a1 a3 b1 b3
  have hat : ∀ j, j < ns.length → ns.getD j 0 ∈ ns := fun j hj => by rw [List.getD_eq_getElem?_getD, List.getElem?_eq_getElem hj]; exact List.getElem_mem hj
  by_cases hc : Lib.minOf ns < 0 ∨ 16777216 < Lib.maxOf ns
  · have hr : (decide (Lib.minOf ns < 0) || decide (16777216 < Lib.maxOf ns)) = true := by simpa using hc
    rw [hr, List.any_eq_true]
    rcases hc with hc | hc
    · exact ⟨ns.getD j2 0, hat j2 b2, by generalize ns.getD j2 0 = x at *; simp only [badI]; simp; omega⟩
    · exact ⟨ns.getD j1 0, hat j1 a2, by generalize ns.getD j1 0 = x at *; simp only [badI]; simp; omega⟩
  · have hr : (decide (Lib.minOf ns < 0) || decide (16777216 < Lib.maxOf ns)) = false := by simpa [not_or] using hc
    rw [hr, List.any_eq_false]
    intro x hx
    obtain ⟨j, hj, rfl⟩ := List.mem_iff_getElem.1 hx
    have e1 := a1 j hj
    have e2 := b1 j hj
    rw [List.getD_eq_getElem?_getD, List.getElem?_eq_getElem hj] at e1 e2
    simp only [Option.getD_some] at e1 e2
    simp only [badI]
    simp
    omega

set_option maxRecDepth 100000 in
theorem sk_closure (n : Int) (W : World) : Calls Tryd.prog 54 #[.int .i64 n] W fun e w' => e = .returned (.bool (badI n)) ∧ W = w' := by
  by_cases h1 : n < 0
  · have g1 : decide (n < 0) = true := by simpa using h1
    have hb : badI n = true := by simp [badI, h1]
    rw [hb]
    clear hb
    go_enter Tryd.func54, Tryd.ntmps54
    go_wp2
    go_ret
    exact ⟨rfl, rfl⟩
  · have g1 : decide (n < 0) = false := by simpa using h1
    by_cases h2 : 16777216 < n
    · have g2 : decide (16777216 < n) = true := by simpa using h2
      have hb : badI n = true := by simp [badI, h2]
      rw [hb]
      clear hb
      go_enter Tryd.func54, Tryd.ntmps54
      go_wp2
      go_ret
      exact ⟨rfl, rfl⟩
    · have g2 : decide (16777216 < n) = false := by simpa using h2
      have hb : badI n = false := by simp [badI, h1, h2]
      rw [hb]
      clear hb
      go_enter Tryd.func54, Tryd.ntmps54
      go_wp2
      go_ret
      exact ⟨rfl, rfl⟩

theorem any_take_bad (ns : List Int) (k : Nat) (hk : k ≤ ns.length) (h : ∀ j, j < k → badI (ns.getD j 0) = false) (hlast : k = ns.length ∨ badI (ns.getD k 0) = true ∧ k < ns.length) : ns.any badI = !decide (k = ns.length) := by
  rcases hlast with rfl | ⟨h1, h2⟩
  · rw [show (!decide (ns.length = ns.length)) = false by simp, List.any_eq_false]
    intro x hx
    obtain ⟨j, hj, rfl⟩ := List.mem_iff_getElem.1 hx
    have := h j hj
    rw [List.getD_eq_getElem?_getD, List.getElem?_eq_getElem hj] at this
    simpa using this
  · rw [show (!decide (k = ns.length)) = true by simp; omega, List.any_eq_true]
    exact ⟨ns.getD k 0, by rw [List.getD_eq_getElem?_getD, List.getElem?_eq_getElem h2]; exact List.getElem_mem h2, h1⟩

set_option maxRecDepth 100000 in
set_option maxHeartbeats 1000000 in
theorem sk_index (b o n c : Nat) (ns : List Int) (W : World) (hn : ns.length = n) (hn2 : n ≤ 1000000) (hb : b < W.heap.size) (hrd : ∀ k, k < n → W.cell? ⟨b, o + k, none⟩ = some (.int .i64 (ns.getD k 0))) :
    Calls Tryd.prog 81 #[.slice (some ⟨b, o, none⟩) n c, .func (.func 54) #[] #[]] W fun e w' => (∃ k : Int, e = .returned (.int .i64 k) ∧ decide (0 ≤ k) = ns.any badI) ∧ Below W.heap.size W w' := by
  have Hn := Lib.hid hn
  clear hn
  go_enter Tryd.func81, Tryd.ntmps81
  go_wp2_with fail
  go_loopw [8] (fun i wr => ∃ k : Nat, k ≤ n ∧ i = .int .i64 (k : Int) ∧ Hid (∀ j, j < k → badI (ns.getD j 0) = false) ∧ Below W.heap.size W wr) (fun i _ => n - (intOf i).toNat)
  case atStart => exact ⟨0, by omega, rfl, Lib.hid fun j hj => by omega, Below.refl _ _⟩
  case round =>
    obtain ⟨k, hk, rfl, hall, hbl⟩ := hrel
    by_cases hlt : k < n
    · have hki : (k : Int) < (n : Int) := by omega
      have ck : wr.cell? ⟨b, o + k, none⟩ = some (.int .i64 (ns.getD k 0)) := (hbl.cell (p := ⟨b, o + k, none⟩) hb).trans (hrd k hlt)
      have hst := any_take_bad ns k (by rw [Hn.out]; exact hk) hall.out
      have hnx : badI (ns.getD k 0) = false → ∀ j, j < k + 1 → badI (ns.getD j 0) = false := fun h j hj => by
        rcases Nat.lt_or_eq_of_le (Nat.le_of_lt_succ hj) with h1 | rfl
        · exact hall.out j h1
        · exact h
      rw [Hn.out] at hst
      generalize ns.getD k 0 = v at ck hst hnx
      have Hst := Lib.hid hst
      have Hnx := Lib.hid hnx
      clear hst hnx
      go_wp2_with fail
      refine (sk_closure v _).mono ?_
      generalize hv : badI v = bv at *
      have Hv := Lib.hid hv
      clear hv
      rintro e w' ⟨rfl, rfl⟩
      cases bv
      · go_wp2_with fail
        go_roundw
        case rel => exact ⟨k + 1, by omega, by go_num, Lib.hid (Hnx.out (by first | rfl | trivial)), hbl⟩
        case measure => simp [intOf]; omega
      · go_wp2_with fail
        go_ret
        refine ⟨⟨k, rfl, ?_⟩, hbl⟩
        rw [Hst.out (.inr ⟨by first | rfl | trivial, hlt⟩)]
        simp
        omega
    · have hkn : k = n := by omega
      subst hkn
      have hst := any_take_bad ns k (by rw [Hn.out]; exact hk) hall.out (.inl Hn.out.symm)
      have Hst := Lib.hid hst
      clear hst
      go_wp2_with fail
      go_ret
      refine ⟨⟨-1, rfl, ?_⟩, hbl⟩
      rw [Hst.out, Hn.out]
      simp

set_option maxRecDepth 100000 in
theorem sk_contains (b o n c : Nat) (ns : List Int) (W : World) (hn : ns.length = n) (hn2 : n ≤ 1000000) (hb : b < W.heap.size) (hrd : ∀ k, k < n → W.cell? ⟨b, o + k, none⟩ = some (.int .i64 (ns.getD k 0))) :
    Calls Tryd.prog 53 #[.slice (some ⟨b, o, none⟩) n c, .func (.func 54) #[] #[]] W fun e w' => e = .returned (.bool (ns.any badI)) ∧ Below W.heap.size W w' := by
  have hix := sk_index b o n c ns W hn hn2 hb hrd
  clear hrd
  go_enter Tryd.func53, Tryd.ntmps53
  go_wp2_with fail
  refine hix.mono ?_
  rintro e w' ⟨⟨k, rfl, hk⟩, hb1⟩
  go_wp2_with fail
  go_ret
  exact ⟨by first | rfl | exact ret_bool hk, hb1⟩
end Go.Proofs.YtjicgbpnplmpbaaDoor
