/- A slice of bands and three weights that came in. -/
import Derived.Test.YtoffnmpnhddaiaaOpn2
import Derived.Test.YtoffnmpnhddaiaaCol7
import Derived.OpenShut
namespace Go.Proofs.Ytoffnmpnhddaiaa
open Go.RowKit Go.ChangeShapes Go.WideShapes Go.Deep
section
variable {H : Type} {enc : TypeId × Value → H} {w : World} {base : Nat} {held : Bool} {r : Reach} {b0 : Nat} {v : Value} {d : DataW H} {p : List MemPlace}

set_option maxRecDepth 100000 in
theorem pixel_cells {fuel : Nat} {cs : List Value} {y : DataW H × List MemPlace} (hf : DataW.trod enc Try.prog w base (fun _ => true) held fuel 35 cs = some y) :
    ∃ F : Nat → Nat, cs = [.float .f32 (F 0), .float .f32 (F 1), .float .f32 (F 2), .float .f32 (F 3)] := by
  obtain ⟨xs, n, _, _, hl, hxl, hel⟩ := DataW.trod_array Try.underlying35 hf
  have hc : Try.prog.cellsOf 35 = 4 := by kernel_rfl
  have hs : Try.prog.cellsOf 33 = 1 := by kernel_rfl
  match cs, hl.trans hc with
  | [v0, v1, v2, v3], _ =>
    have some_of : ∀ i, i < 4 → ∃ y, xs[i]? = some y := by
      intro i hi4
      exact ⟨xs[i]'(by omega), List.getElem?_eq_getElem (by omega)⟩
    obtain ⟨y0, e0⟩ := some_of 0 (by omega)
    obtain ⟨y1, e1⟩ := some_of 1 (by omega)
    obtain ⟨y2, e2⟩ := some_of 2 (by omega)
    obtain ⟨y3, e3⟩ := some_of 3 (by omega)
    have h0 := (hel 0 (by omega)).trans e0
    have h1 := (hel 1 (by omega)).trans e1
    have h2 := (hel 2 (by omega)).trans e2
    have h3 := (hel 3 (by omega)).trans e3
    simp only [hs, List.drop_zero, List.drop_succ_cons, List.take_succ_cons, List.take_zero, Nat.zero_mul] at h0 h1 h2 h3
    obtain ⟨x0, rfl⟩ := trod_f32 Try.underlying33 h0
    obtain ⟨x1, rfl⟩ := trod_f32 Try.underlying33 h1
    obtain ⟨x2, rfl⟩ := trod_f32 Try.underlying33 h2
    obtain ⟨x3, rfl⟩ := trod_f32 Try.underlying33 h3
    exact ⟨fun c => match c with | 0 => x0 | 1 => x1 | 2 => x2 | _ => x3, rfl⟩

set_option maxRecDepth 100000 in
theorem open_f32_3 (hv : Value.okWide Try.prog w r b0 75 v) (h : DataW.Trod enc Try.prog w base (fun _ => true) held 75 v d p) :
    ∃ a b c : Nat, v = .agg #[.float .f32 a, .float .f32 b, .float .f32 c] := by
  obtain ⟨cs, rfl, hsz⟩ := okWide_array Try.underlying75 hv
  obtain ⟨fuel, hf⟩ := h
  obtain ⟨xs, n, _, _, hl, hxl, hel⟩ := DataW.trod_array Try.underlying75 hf
  have hc : Try.prog.cellsOf 75 = 3 := by kernel_rfl
  have hs : Try.prog.cellsOf 33 = 1 := by kernel_rfl
  obtain ⟨l⟩ := cs
  match l, hsz.trans hc with
  | [v0, v1, v2], _ =>
    have some_of : ∀ i, i < 3 → ∃ y, xs[i]? = some y := by
      intro i hi4
      exact ⟨xs[i]'(by omega), List.getElem?_eq_getElem (by omega)⟩
    obtain ⟨y0, e0⟩ := some_of 0 (by omega)
    obtain ⟨y1, e1⟩ := some_of 1 (by omega)
    obtain ⟨y2, e2⟩ := some_of 2 (by omega)
    have h0 := (hel 0 (by omega)).trans e0
    have h1 := (hel 1 (by omega)).trans e1
    have h2 := (hel 2 (by omega)).trans e2
    simp only [Value.cells, hs, List.drop_zero, List.drop_succ_cons, List.take_succ_cons, List.take_zero, Nat.zero_mul] at h0 h1 h2
    obtain ⟨x0, rfl⟩ := trod_f32 Try.underlying33 h0
    obtain ⟨x1, rfl⟩ := trod_f32 Try.underlying33 h1
    obtain ⟨x2, rfl⟩ := trod_f32 Try.underlying33 h2
    exact ⟨x0, x1, x2, rfl⟩

set_option maxRecDepth 100000 in
theorem band_cells {fuel : Nat} {cs : List Value} {y : DataW H × List MemPlace} (hf : DataW.trod enc Try.prog w base (fun _ => true) held fuel 135 cs = some y) :
    ∃ F : Nat → Nat, cs = [.float .f32 (F 0), .float .f32 (F 1), .float .f32 (F 2), .float .f32 (F 3), .float .f32 (F 4)] := by
  obtain ⟨xs, n, _, _, hl, hxl, hel⟩ := DataW.trod_struct Try.underlying135 hf
  have hc : Try.prog.cellsOf 135 = 5 := by kernel_rfl
  have hs : Try.prog.cellsOf 33 = 1 := by kernel_rfl
  have hp : Try.prog.cellsOf 35 = 4 := by kernel_rfl
  have hxl2 : xs.length = 2 := hxl
  match cs, hl.trans hc with
  | [v0, v1, v2, v3, v4], _ =>
    have some_of : ∀ i, i < 2 → ∃ y, xs[i]? = some y := by
      intro i hi4
      exact ⟨xs[i]'(by omega), List.getElem?_eq_getElem (by omega)⟩
    obtain ⟨y0, e0⟩ := some_of 0 (by omega)
    obtain ⟨y1, e1⟩ := some_of 1 (by omega)
    have h0 := (hel 0 _ rfl).trans e0
    have h1 := (hel 1 _ rfl).trans e1
    simp only [List.getElem_toArray, List.getElem_cons_zero, List.getElem_cons_succ, hs, hp, List.drop_zero, List.drop_succ_cons, List.take_succ_cons, List.take_zero] at h0 h1
    obtain ⟨x0, rfl⟩ := trod_f32 Try.underlying33 h0
    obtain ⟨F, hF⟩ := pixel_cells h1
    simp only [List.cons.injEq, and_true] at hF
    obtain ⟨rfl, rfl, rfl, rfl⟩ := hF
    exact ⟨fun c => match c with | 0 => x0 | 1 => F 0 | 2 => F 1 | 3 => F 2 | _ => F 3, rfl⟩

set_option maxRecDepth 100000 in
theorem open_bands (hv : Value.okWide Try.prog w r b0 76 v) (h : DataW.Trod enc Try.prog w base (fun _ => true) held 76 v d p) :
    ∃ (ls : List Nat) (n : Nat), SlB w v ls n := by
  obtain ⟨fuel, h0⟩ := h
  have hc : Try.prog.cellsOf 135 = 5 := by kernel_rfl
  have hcs : v.cells.toList = [v] := by
    simp only [Value.okWide, Try.underlying76] at hv
    cases v <;> simp_all [Value.cells, Cell.okWide, Cell.ok]
  rw [hcs] at h0
  rcases open_slice Try.underlying76 h0 with ⟨hv, _⟩ | ⟨a, len, cap, m, n, D, Pl, hv, _, hl, hm, hmm, _, hel⟩
  · simp only [List.cons.injEq, and_true] at hv
    subst hv
    exact ⟨[], 0, rfl, none, 0, rfl, Nat.zero_le _, .inl rfl⟩
  · simp only [List.cons.injEq, and_true] at hv
    subst hv
    have hmc : m = cap := by simpa using hmm
    subst hmc
    rw [hc] at hel
    have hb : ∀ i, i < m → ∃ F : Nat → Nat, ∀ j, j < 5 → w.cell? (a.add (i * 5 + j)) = some (.float .f32 (F j)) := fun i hi => by
      obtain ⟨cs', h1, h2⟩ := hel i hi
      obtain ⟨F, rfl⟩ := band_cells h2
      obtain ⟨_, _, hcell⟩ := World.cells?_some h1
      refine ⟨F, fun j hj => ?_⟩
      have e := hcell j hj
      rw [add_add] at e
      rw [e]
      match j, hj with
      | 0, _ => rfl
      | 1, _ => rfl
      | 2, _ => rfl
      | 3, _ => rfl
      | 4, _ => rfl
    by_cases hlen : len = 0
    · subst hlen
      exact ⟨[], 0, rfl, some a, m, rfl, Nat.zero_le _, .inl rfl⟩
    · obtain ⟨B, hB⟩ := choose_lt (α := Nat → Nat) (p := fun i (F : Nat → Nat) => ∀ j, j < 5 → w.cell? (a.add (i * 5 + j)) = some (.float .f32 (F j))) hb
      obtain ⟨b, off, spot⟩ := a
      have hc0 := hB 0 (by omega) 0 (by omega)
      have hspot : spot = none := by simpa [Addr.add] using World.cell?_spot hc0
      subst hspot
      have hlt := World.block_lt_of_cell? w _ hc0
      refine ⟨(List.range (5 * len)).map (fun k => B (k / 5) (k % 5)), len, by simp, some ⟨b, off, none⟩, m, rfl, by omega, .inr ⟨b, off, rfl, hlt, fun k hk => ?_⟩⟩
      simp only [List.length_map, List.length_range] at hk
      have h1 := hB (k / 5) (by omega) (k % 5) (by omega)
      have ha : (⟨b, off, none⟩ : Addr).add (k / 5 * 5 + k % 5) = ⟨b, off + k, none⟩ := by rw [addr_add]; congr 1; omega
      rw [ha] at h1
      rw [h1]
      simp [hk]
end
end Go.Proofs.Ytoffnmpnhddaiaa
