/- Arguments that came in, opened: single words, regions, pixels, arrays of slices. -/
import Derived.Test.YticekgnmiaidjaaGreatDoorMem
import Derived.ProofKit
import Derived.Deep.Slices
import Derived.OpenShut
namespace Go.Proofs.YticekgnmiaidjaaGreatDoor

section
open Go.RowKit Go.ChangeShapes Go.WideShapes Go.Deep
section
variable {H : Type} {enc : TypeId × Value → H} {w : World} {base : Nat} {spare : Nat → Bool} {held : Bool}

theorem addr_add (b off k : Nat) : (⟨b, off, none⟩ : Addr).add k = ⟨b, off + k, none⟩ := by unfold Addr.add; split <;> simp_all
theorem trod_f32 {P : Program} {t : TypeId} {fuel : Nat} {v : Value} {x : DataW H × List MemPlace} (ht : P.underlying t = some (.float .f32)) (h : DataW.trod enc P w base spare held fuel t [v] = some x) : ∃ b, v = .float .f32 b := by
  cases fuel with
  | zero => simp [DataW.trod] at h
  | succ n =>
    unfold DataW.trod at h
    rw [ht] at h
    cases v <;> simp_all

set_option maxRecDepth 100000 in
theorem trod_f32s {fuel : Nat} {v : Value} {x : DataW H × List MemPlace} (h : DataW.trod enc Tryz.prog w base (fun _ => true) held fuel 37 [v] = some x) :
    ∃ xs : List Nat, Sl w v xs ∧ xs.length ≤ maxLen ∧ (∃ a n c, v = .slice a n c) := by
  have hc : Tryz.prog.cellsOf 23 = 1 := by kernel_rfl
  rcases open_slice1 Tryz.underlying37 hc h with ⟨hv, _⟩ | ⟨a, len, cap, m, n, V, D, Pl, hv, _, hl, hm, hmm, _, hel⟩
  · simp only [List.cons.injEq, and_true] at hv
    subst hv
    exact ⟨[], .inr ⟨rfl, none, 0, rfl⟩, Nat.zero_le _, _, _, _, rfl⟩
  · simp only [List.cons.injEq, and_true] at hv
    subst hv
    have hmc : m = cap := by simpa using hmm
    subst hmc
    have hb : ∀ i, i < m → ∃ b, V i = .float .f32 b := fun i hi => trod_f32 Tryz.underlying23 (hel i hi).2
    by_cases hlen : len = 0
    · subst hlen
      exact ⟨[], .inr ⟨rfl, _, _, rfl⟩, Nat.zero_le _, _, _, _, rfl⟩
    · obtain ⟨B, hB⟩ := choose_lt (α := Nat) (p := fun i b => V i = .float .f32 b) hb
      obtain ⟨b, off, spot⟩ := a
      have hc0 := (hel 0 (by omega)).1
      have hspot : spot = none := by simpa [Addr.add] using World.cell?_spot hc0
      subst hspot
      have hlt := World.block_lt_of_cell? w _ hc0
      refine ⟨(List.range len).map B, .inl ⟨b, off, m, by rw [List.length_map, List.length_range], by intro e; have := congrArg List.length e; rw [List.length_map, List.length_range] at this; exact hlen this, ⟨hlt, fun k hk => ?_⟩⟩, by rw [List.length_map, List.length_range]; exact Nat.le_trans hl hm, _, _, _, rfl⟩
      rw [List.length_map, List.length_range] at hk
      have h1 := (hel k (by omega)).1
      rw [hB k (by omega)] at h1
      have ha : (⟨b, off, none⟩ : Addr).add k = ⟨b, off + k, none⟩ := addr_add b off k
      rw [ha] at h1
      rw [h1]
      simp [hk]

end
end

section
open Go.RowKit Go.ChangeShapes Go.WideShapes Go.Deep
section
variable {H : Type} {enc : TypeId × Value → H} {w : World} {base : Nat} {held : Bool} {d : DataW H} {p : List MemPlace}
theorem trod_f32w {P : Program} {t : TypeId} {fuel b : Nat} {spare : Nat → Bool} {x : DataW H × List MemPlace} (ht : P.underlying t = some (.float .f32)) (h : DataW.trod enc P w base spare held fuel t [.float .f32 b] = some x) : b < 4294967296 := by
  cases fuel with
  | zero => simp [DataW.trod] at h
  | succ n =>
    unfold DataW.trod at h
    rw [ht] at h
    simp only [Option.ite_none_right_eq_some] at h
    have := h.1.2
    simpa [Lit.wf] using this
theorem f32s_bits {fuel : Nat} {v : Value} {xs : List Nat} {x : DataW H × List MemPlace} (h : DataW.trod enc Tryz.prog w base (fun _ => true) held fuel 37 [v] = some x) (hsl : Sl w v xs) : ∀ b ∈ xs, b < 4294967296 := by
  have hc : Tryz.prog.cellsOf 23 = 1 := by kernel_rfl
  rcases hsl with ⟨b, o, c, rfl, hne, hrd⟩ | ⟨rfl, _⟩
  · rcases open_slice1 Tryz.underlying37 hc h with ⟨hv, _⟩ | ⟨a, len, cap, m, n, V, D, Pl, hv, _, hl, hm, hmm, _, hel⟩
    · simp at hv
    · simp only [List.cons.injEq, and_true, Value.slice.injEq, Option.some.injEq] at hv
      obtain ⟨rfl, rfl, rfl⟩ := hv
      intro y hy
      obtain ⟨k, hk, rfl⟩ := List.mem_iff_getElem.1 hy
      have hmc : m = c := by simpa using hmm
      obtain ⟨h1, h2⟩ := hel k (by omega)
      have h3 := hrd.cell k hk
      rw [addr_add, h3] at h1
      rw [← Option.some.inj h1] at h2
      have h4 := trod_f32w Tryz.underlying23 h2
      rw [List.getD_eq_getElem?_getD, List.getElem?_eq_getElem hk] at h4
      exact h4
  · intro b hb; cases hb
end
end

section
open Go.RowKit Go.ChangeShapes Go.WideShapes Go.Deep

section
variable {H : Type} {enc : TypeId × Value → H} {w : World} {base : Nat} {held : Bool} {r : Reach} {b0 : Nat} {v : Value} {d : DataW H} {p : List MemPlace}

end
end
end Go.Proofs.YticekgnmiaidjaaGreatDoor
