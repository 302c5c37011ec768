/- Lists of frames that came in, opened. -/
import Derived.Test.YtccbhghpghijiaaOpn2
import Derived.Test.YtccbhghpghijiaaOpnK
import Derived.Test.YtccbhghpghijiaaJnC
import Derived.OpenShut
namespace Go.Proofs.Ytccbhghpghijiaa
open Go.RowKit Go.ChangeShapes Go.WideShapes Go.Deep
section
variable {H : Type} {enc : TypeId × Value → H} {w : World} {base : Nat} {held : Bool} {r : Reach} {b0 : Nat} {v : Value} {d : DataW H} {p : List MemPlace}

set_option maxRecDepth 100000 in
theorem frame_cells {fuel : Nat} {cs : List Value} {y : DataW H × List MemPlace} (hf : DataW.trod enc Try.prog w base (fun _ => true) held fuel 26 cs = some y) :
    ∃ f : Fr, cs = frC f ∧ FrOk w f := by
  obtain ⟨y0, y1, n, _, hl, h0, h1⟩ := trod_struct2 Try.underlying26 hf
  have hc : Try.prog.cellsOf 26 = 5 := by kernel_rfl
  have hr : Try.prog.cellsOf 23 = 4 := by kernel_rfl
  have hs : Try.prog.cellsOf 24 = 1 := by kernel_rfl
  match cs, hl.trans hc with
  | [c0, c1, c2, c3, c4], _ =>
    simp only [hr, hs, List.drop_zero, List.drop_succ_cons, List.take_succ_cons, List.take_zero] at h0 h1
    obtain ⟨a, b, c, e, he, -⟩ := trod_region h0
    obtain ⟨xs, hsl, hlen, sa, sn, sc, rfl⟩ := trod_f32s h1
    have hcap := f32s_cap0 h1
    have hn : sn = xs.length := by
      rcases hsl with ⟨_, _, _, h2, _⟩ | ⟨h2, _, _, h3⟩
      · injection h2
      · injection h3 with _ h4; rw [h4, h2]; rfl
    subst hn
    simp only [List.cons.injEq, and_true] at he
    obtain ⟨rfl, rfl, rfl, rfl⟩ := he
    exact ⟨⟨a, b, c, e, xs, sa, sc⟩, rfl, hsl, hcap, hlen⟩

set_option maxRecDepth 100000 in
theorem frames_in {fuel : Nat} {x : DataW H × List MemPlace} (h0 : DataW.trod enc Try.prog w base (fun _ => true) held fuel 27 [v] = some x) : ∃ L : List Fr, SlF w v L := by
  have hc : Try.prog.cellsOf 26 = 5 := by kernel_rfl
  rcases open_slice Try.underlying27 h0 with ⟨hv, _⟩ | ⟨a, len, cap, m, n, D, Pl, hv, _, hl, hm, hmm, _, hel⟩
  · simp only [List.cons.injEq, and_true] at hv
    subst hv
    exact ⟨[], none, 0, rfl, Nat.zero_le _, .inl rfl, fun k hk => by simp at hk⟩
  · simp only [List.cons.injEq, and_true] at hv
    subst hv
    have hmc : m = cap := by simpa using hmm
    subst hmc
    rw [hc] at hel
    have hb : ∀ i, i < m → ∃ e : Fr, (∀ j, j < 5 → w.cell? (a.add (i * 5 + j)) = (frC e)[j]?) ∧ FrOk w e := fun i hi => by
      obtain ⟨cs', h1, h2⟩ := hel i hi
      obtain ⟨e0, rfl, hsp⟩ := frame_cells h2
      obtain ⟨_, _, hcell⟩ := World.cells?_some h1
      refine ⟨e0, fun j hj => ?_, hsp⟩
      have e := hcell j hj
      rw [add_add] at e
      exact e
    by_cases hlen : len = 0
    · subst hlen
      exact ⟨[], some a, m, rfl, Nat.zero_le _, .inl rfl, fun k hk => by simp at hk⟩
    · obtain ⟨B, hB⟩ := choose_lt (α := Fr) (p := fun i (e : Fr) => (∀ j, j < 5 → w.cell? (a.add (i * 5 + j)) = (frC e)[j]?) ∧ FrOk w e) hb
      obtain ⟨b, off, spot⟩ := a
      have hc0 : w.cell? ((⟨b, off, spot⟩ : Addr).add (0 * 5 + 0)) = some (.int .i64 (B 0).x) := (hB 0 (by omega)).1 0 (by omega)
      have hspot : spot = none := by simpa [Addr.add] using World.cell?_spot hc0
      subst hspot
      have hlt := World.block_lt_of_cell? w _ hc0
      have eg : ∀ k, k < len → ((List.range len).map B).getD k default = B k := fun k hk => by simp [List.getD, hk]
      refine ⟨(List.range len).map B, some ⟨b, off, none⟩, m, by simp, by simpa using Nat.le_trans hl hm, .inr ⟨b, off, rfl, hlt, fun k hk => ?_⟩, fun k hk => ?_⟩
      · have hk : k < len := by simpa using hk
        have hq : ∀ j, j < 5 → w.cell? ⟨b, off + k * 5 + j, none⟩ = (frC (B k))[j]? := fun j hj => by
          have h1 := (hB k (by omega)).1 j hj
          rw [addr_add] at h1
          rw [Nat.add_assoc]
          exact h1
        rw [eg k hk]
        exact ⟨hq 0 (by omega), hq 1 (by omega), hq 2 (by omega), hq 3 (by omega), hq 4 (by omega)⟩
      · have hk : k < len := by simpa using hk
        rw [eg k hk]
        exact (hB k (by omega)).2

set_option maxRecDepth 100000 in
theorem open_frames (hv : Value.okWide Try.prog w r b0 27 v) (h : DataW.Trod enc Try.prog w base (fun _ => true) held 27 v d p) :
    ∃ L : List Fr, SlF w v L := by
  obtain ⟨fuel, h0⟩ := h
  have hcs : v.cells.toList = [v] := by
    simp only [Value.okWide, Try.underlying27] at hv
    cases v <;> simp_all [Value.cells, Cell.okWide, Cell.ok]
  rw [hcs] at h0
  exact frames_in h0
end
end Go.Proofs.Ytccbhghpghijiaa
