/- A slice of strings that came in, each of the reach's size at most. -/
import Derived.Test.YtojieeenbbgpdaaOpen
import Derived.Test.YtojieeenbbgpdaaWdO
import Derived.SliceStrings
import Derived.SizedLaws
import Derived.OpenShut
namespace Go.Proofs.Ytojieeenbbgpdaa
open Go.RowKit Go.ChangeShapes Go.WideShapes Go.Deep
section
variable {H : Type} {enc : TypeId × Value → H} {w : World} {base : Nat} {held : Bool} {r : Reach} {b0 : Nat} {v : Value} {d : DataW H} {p : List MemPlace}
theorem weights_all_mem {P : Program} {e : TypeId} {n : Nat} : ∀ {ds : List (DataW H)} {d : DataW H}, d ∈ ds → n ∈ d.weights P e → n ∈ DataW.weightsAll P e ds
  | d0 :: ds, d, h, hn => by
    simp only [DataW.weightsAll, List.mem_append]
    rcases List.mem_cons.1 h with rfl | h
    · exact .inl hn
    · exact .inr (weights_all_mem h hn)
set_option maxRecDepth 100000 in
theorem open_words (hv : Value.okWide Try.prog w r b0 22 v) (h : DataW.Trod enc Try.prog w base (fun _ => true) held 22 v d p) (hw : ∀ n ∈ d.weights Try.prog 22, n ≤ reachBytes) :
    ∃ (a : Option Addr) (n c : Nat) (L : List (List UInt8)), v = .slice a n c ∧ SlS w (.slice a n c) L ∧ n = L.length ∧ n ≤ c ∧ c ≤ 9223372036854775807 ∧ ∀ k, k ∈ L → k.length ≤ 140737488351232 := by
  obtain ⟨fuel, h0⟩ := h
  have hc : Try.prog.cellsOf 9 = 1 := by kernel_rfl
  have hml : maxLen = 9223372036854775807 := rfl
  have hrb : reachBytes = 140737488351232 := rfl
  have hcs : v.cells.toList = [v] := by
    simp only [Value.okWide, Try.underlying22] at hv
    cases v <;> simp_all [Value.cells, Cell.okWide, Cell.ok]
  rw [hcs] at h0
  rcases open_strings Try.underlying22 Try.underlying9 hc h0 with ⟨hv, _⟩ | ⟨a, len, cap, ss, hv, _, hl, hm, hz, hx, hcell, _⟩
  · simp only [List.cons.injEq, and_true] at hv
    subst hv
    exact ⟨none, 0, 0, [], rfl, .inl ⟨rfl, none, 0, rfl⟩, rfl, Nat.le_refl _, by omega, fun k hk => by cases hk⟩
  · simp only [List.cons.injEq, and_true] at hv
    subst hv
    have hz' : ss.length = cap := by simpa using hz
    have hsz : ∀ t ∈ ss.take len, t.size ≤ 140737488351232 := fun t ht => by
      have hd : d = .slice (strs (ss.take len)) (strs (ss.drop len)) := congrArg Prod.fst hx
      have := hw t.data.toList.length (by
        rw [hd]
        simp only [DataW.weights, Try.underlying22]
        refine List.mem_cons_of_mem _ (List.mem_append_left _ (weights_all_mem (d := .lit (.string t.data.toList)) (List.mem_map_of_mem ht) ?_))
        simp [DataW.weights])
      rw [Lib.size_eq]; omega
    by_cases hlen : len = 0
    · subst hlen
      exact ⟨some a, 0, cap, [], rfl, .inl ⟨rfl, some a, cap, rfl⟩, rfl, hl, by omega, fun k hk => by cases hk⟩
    · obtain ⟨b, off, spot⟩ := a
      have hc0 := hcell 0 (by omega)
      have hspot : spot = none := by simpa [Addr.add] using World.cell?_spot hc0
      subst hspot
      have hlt := World.block_lt_of_cell? w _ hc0
      have hll : ((ss.take len).map fun t => t.data.toList).length = len := by rw [List.length_map, List.length_take]; omega
      refine ⟨some ⟨b, off, none⟩, len, cap, (ss.take len).map fun t => t.data.toList, rfl, .inr ⟨b, off, cap, by rw [hll], hlt, fun j u hu => ?_⟩, hll.symm, hl, by omega, fun k hk => ?_⟩
      · rw [List.getElem?_map] at hu
        obtain ⟨t, ht, rfl⟩ := Option.map_eq_some_iff.1 hu
        rw [List.getElem?_take] at ht
        split at ht
        · have h1 := hcell j (by omega)
          rw [show (⟨b, off, none⟩ : Addr).add j = ⟨b, off + j, none⟩ from addr_add b off j, List.getD_eq_getElem?_getD, ht] at h1
          rw [h1]
          unfold strV
          rw [bytes_list]; rfl
        · cases ht
      · obtain ⟨t, ht, rfl⟩ := List.mem_map.1 hk
        rw [← Lib.size_eq]
        exact hsz t ht
end
end Go.Proofs.Ytojieeenbbgpdaa
