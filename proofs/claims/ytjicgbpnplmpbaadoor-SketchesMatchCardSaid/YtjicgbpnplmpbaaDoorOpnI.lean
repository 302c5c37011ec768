/- A slice of ints that came in. -/
import Derived.Test.YtjicgbpnplmpbaaDoorOpen
import Derived.OpenShut
namespace Go.Proofs.YtjicgbpnplmpbaaDoor
open Go.RowKit Go.ChangeShapes Go.WideShapes Go.Deep

/-- v reads as the ints ns. -/
def SlI (w : World) (v : Value) (ns : List Int) : Prop :=
  (∃ b o c, v = .slice (some ⟨b, o, none⟩) ns.length c ∧ ns ≠ [] ∧ b < w.heap.size ∧ ∀ k, k < ns.length → w.cell? ⟨b, o + k, none⟩ = some (.int .i64 (ns.getD k 0))) ∨ (ns = [] ∧ ∃ a c, v = .slice a 0 c)
theorem SlI.keep {w w' : World} {v : Value} {ns : List Int} (h : SlI w v ns) (hb : Below w.heap.size w w') : SlI w' v ns := by
  rcases h with ⟨b, o, c, h1, h2, h3, h4⟩ | h
  · refine .inl ⟨b, o, c, h1, h2, Nat.lt_of_lt_of_le h3 hb.size, fun k hk => ?_⟩
    rw [hb.cell (p := ⟨b, o + k, none⟩) h3]; exact h4 k hk
  · exact .inr h
section
variable {H : Type} {enc : TypeId × Value → H} {w : World} {base : Nat} {held : Bool} {r : Reach} {b0 : Nat} {v : Value} {d : DataW H} {p : List MemPlace}
set_option maxRecDepth 100000 in
theorem open_ints' (hv : Value.okWide Tryd.prog w r b0 45 v) (h : DataW.Trod enc Tryd.prog w base (fun _ => true) held 45 v d p) :
    ∃ ns : List Int, SlI w v ns ∧ ns.length ≤ maxLen := by
  obtain ⟨fuel, h0⟩ := h
  have hc : Tryd.prog.cellsOf 3 = 1 := by kernel_rfl
  have hcs : v.cells.toList = [v] := by
    simp only [Value.okWide, Tryd.underlying45] at hv
    cases v <;> simp_all [Value.cells, Cell.okWide, Cell.ok]
  rw [hcs] at h0
  rcases open_slice1 Tryd.underlying45 hc h0 with ⟨hv, _⟩ | ⟨a, len, cap, m, n, V, D, Pl, hv, _, hl, hm, hmm, _, hel⟩
  · simp only [List.cons.injEq, and_true] at hv
    subst hv
    exact ⟨[], .inr ⟨rfl, none, 0, rfl⟩, Nat.zero_le _⟩
  · simp only [List.cons.injEq, and_true] at hv
    subst hv
    have hmc : m = cap := by simpa using hmm
    subst hmc
    have hb : ∀ i, i < m → ∃ b, V i = .int .i64 b := fun i hi => by
      have hx := (hel i hi).2
      obtain ⟨z, hz, _, _⟩ := DataW.trod_int Tryd.underlying3 hx
      exact ⟨z, by simpa using hz⟩
    by_cases hlen : len = 0
    · subst hlen
      exact ⟨[], .inr ⟨rfl, _, _, rfl⟩, Nat.zero_le _⟩
    · obtain ⟨B, hB⟩ := choose_lt (α := Int) (p := fun i b => V i = .int .i64 b) hb
      obtain ⟨b, off, spot⟩ := a
      have hc0 := (hel 0 (by omega)).1
      have hspot : spot = none := by simpa [Addr.add] using World.cell?_spot hc0
      subst hspot
      have hlt := World.block_lt_of_cell? w _ hc0
      refine ⟨(List.range len).map B, .inl ⟨b, off, m, by rw [List.length_map, List.length_range], by intro e; have := congrArg List.length e; rw [List.length_map, List.length_range] at this; exact hlen this, hlt, fun k hk => ?_⟩, by rw [List.length_map, List.length_range]; exact Nat.le_trans hl hm⟩
      rw [List.length_map, List.length_range] at hk
      have h1 := (hel k (by omega)).1
      rw [hB k (by omega)] at h1
      have ha : (⟨b, off, none⟩ : Addr).add k = ⟨b, off + k, none⟩ := addr_add b off k
      rw [ha] at h1
      rw [h1]
      simp [hk]
end
end Go.Proofs.YtjicgbpnplmpbaaDoor
