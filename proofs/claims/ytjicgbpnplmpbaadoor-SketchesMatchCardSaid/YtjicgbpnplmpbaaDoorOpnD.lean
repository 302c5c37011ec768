/- Counts that came in, opened. -/
import Derived.Test.YtjicgbpnplmpbaaDoorOpnI
import Derived.Test.YtjicgbpnplmpbaaDoorOpn2
import Derived.OpenShut
namespace Go.Proofs.YtjicgbpnplmpbaaDoor
open Go.RowKit Go.ChangeShapes Go.WideShapes Go.Deep
section
variable {H : Type} {enc : TypeId × Value → H} {w : World} {base : Nat} {held : Bool} {r : Reach} {b0 : Nat} {v : Value} {d : DataW H} {p : List MemPlace}

set_option maxRecDepth 100000 in
theorem ints_in {fuel : Nat} (h0 : DataW.trod enc Tryd.prog w base (fun _ => true) held fuel 45 [v] = some (d, p)) : ∃ ns : List Int, SlI w v ns := by
  have hc : Tryd.prog.cellsOf 3 = 1 := by kernel_rfl
  rcases open_slice1 Tryd.underlying45 hc h0 with ⟨hv, _⟩ | ⟨a, len, cap, m, n, V, D, Pl, hv, _, hl, hm, hmm, _, hel⟩
  · simp only [List.cons.injEq, and_true] at hv
    subst hv
    exact ⟨[], .inr ⟨rfl, none, 0, rfl⟩⟩
  · simp only [List.cons.injEq, and_true] at hv
    subst hv
    have hmc : m = cap := by simpa using hmm
    subst hmc
    have hb : ∀ i, i < m → ∃ b, V i = .int .i64 b := fun i hi => by
      have hx := (hel i hi).2
      obtain ⟨z, hz, _, _⟩ := DataW.trod_int Tryd.underlying3 hx
      exact ⟨z, by simpa using hz⟩
    by_cases hlen : len = 0
    · subst hlen
      exact ⟨[], .inr ⟨rfl, _, _, rfl⟩⟩
    · obtain ⟨B, hB⟩ := choose_lt (α := Int) (p := fun i b => V i = .int .i64 b) hb
      obtain ⟨b, off, spot⟩ := a
      have hc0 := (hel 0 (by omega)).1
      have hspot : spot = none := by simpa [Addr.add] using World.cell?_spot hc0
      subst hspot
      have hlt := World.block_lt_of_cell? w _ hc0
      refine ⟨(List.range len).map B, .inl ⟨b, off, m, by rw [List.length_map, List.length_range], by intro e; have := congrArg List.length e; rw [List.length_map, List.length_range] at this; exact hlen this, hlt, fun k hk => ?_⟩⟩
      rw [List.length_map, List.length_range] at hk
      have h1 := (hel k (by omega)).1
      rw [hB k (by omega)] at h1
      have ha : (⟨b, off, none⟩ : Addr).add k = ⟨b, off + k, none⟩ := addr_add b off k
      rw [ha] at h1
      rw [h1]
      simp [hk]

set_option maxRecDepth 100000 in
theorem open_counts (hv : Value.okWide Tryd.prog w r b0 47 v) (h : DataW.Trod enc Tryd.prog w base (fun _ => true) held 47 v d p) :
    ∃ (s : Value) (ns : List Int) (bel abv nan : Int), v = .agg #[s, .int .i64 bel, .int .i64 abv, .int .i64 nan] ∧ SlI w s ns := by
  obtain ⟨cs, rfl, hsz⟩ := okWide_struct Tryd.underlying47 hv
  obtain ⟨fuel, hf⟩ := h
  obtain ⟨xs, n, _, _, hl, hxl, hel⟩ := DataW.trod_struct Tryd.underlying47 hf
  have hc : Tryd.prog.cellsOf 47 = 4 := by kernel_rfl
  have hs : Tryd.prog.cellsOf 45 = 1 := by kernel_rfl
  have hi : Tryd.prog.cellsOf 3 = 1 := by kernel_rfl
  have hxl2 : xs.length = 4 := hxl
  obtain ⟨l⟩ := cs
  match l, hsz.trans hc with
  | [v0, v1, v2, v3], _ =>
    have some_of : ∀ i, i < 4 → ∃ y, xs[i]? = some y := by
      intro i hi4
      exact ⟨xs[i]'(by omega), List.getElem?_eq_getElem (by omega)⟩
    obtain ⟨⟨y0, q0⟩, e0⟩ := some_of 0 (by omega)
    obtain ⟨y1, e1⟩ := some_of 1 (by omega)
    obtain ⟨y2, e2⟩ := some_of 2 (by omega)
    obtain ⟨y3, e3⟩ := some_of 3 (by omega)
    have h0 := (hel 0 _ rfl).trans e0
    have h1 := (hel 1 _ rfl).trans e1
    have h2 := (hel 2 _ rfl).trans e2
    have h3 := (hel 3 _ rfl).trans e3
    simp only [Value.cells, List.getElem_toArray, List.getElem_cons_zero, List.getElem_cons_succ, hs, hi, List.drop_zero, List.drop_succ_cons, List.take_succ_cons, List.take_zero] at h0 h1 h2 h3
    obtain ⟨ns, hns⟩ := ints_in h0
    obtain ⟨z1, hz1, _, _⟩ := DataW.trod_int Tryd.underlying3 h1
    obtain ⟨z2, hz2, _, _⟩ := DataW.trod_int Tryd.underlying3 h2
    obtain ⟨z3, hz3, _, _⟩ := DataW.trod_int Tryd.underlying3 h3
    simp only [List.cons.injEq, and_true] at hz1 hz2 hz3
    subst hz1 hz2 hz3
    exact ⟨v0, ns, z1, z2, z3, rfl, hns⟩
end
end Go.Proofs.YtjicgbpnplmpbaaDoor
