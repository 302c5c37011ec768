/- Lists of sayings that came in, opened. (printed by gen_opny.py) -/
import Derived.Test.YtilninaminaadaaGreatDoorOpnK
import Derived.Test.YtilninaminaadaaGreatDoorRvSa
import Derived.OpenShut
namespace Go.Proofs.YtilninaminaadaaGreatDoor
open Go.RowKit Go.ChangeShapes Go.WideShapes Go.Deep
section
variable {H : Type} {enc : TypeId × Value → H} {w : World} {base : Nat} {held : Bool} {r : Reach} {b0 : Nat} {v : Value} {d : DataW H} {p : List MemPlace}

set_option maxRecDepth 100000 in
theorem say_cells {fuel : Nat} {cs : List Value} {y : DataW H × List MemPlace} (hf : DataW.trod enc Tryz.prog w base (fun _ => true) held fuel 29 cs = some y) :
    ∃ (a0 : Int) (a1 : Int) (a2 : Int) (a3 : ByteArray) (a4 : ByteArray) (a5 : ByteArray), cs = [.int .i64 a0, .int .i64 a1, .int .i64 a2, .string a3, .string a4, .string a5] ∧ (Lit.int .i64 a0).wf = true ∧ (Lit.int .i64 a1).wf = true ∧ (Lit.int .i64 a2).wf = true ∧ a3.size ≤ maxLen ∧ a4.size ≤ maxLen ∧ a5.size ≤ maxLen := by
  obtain ⟨xs, n, _, _, hl, hxl, hel⟩ := DataW.trod_struct Tryz.underlying29 hf
  have hc : Tryz.prog.cellsOf 29 = 6 := by kernel_rfl
  have zint : Tryz.prog.cellsOf 3 = 1 := by kernel_rfl
  have zstring : Tryz.prog.cellsOf 9 = 1 := by kernel_rfl
  have hxl2 : xs.length = 6 := hxl
  match cs, hl.trans hc with
  | [v0, v1, v2, v3, v4, v5], _ =>
    have some_of : ∀ i, i < 6 → ∃ y, xs[i]? = some y := by
      intro i hi4
      exact ⟨xs[i]'(by omega), List.getElem?_eq_getElem (by omega)⟩
    obtain ⟨y0, e0⟩ := some_of 0 (by omega)
    obtain ⟨y1, e1⟩ := some_of 1 (by omega)
    obtain ⟨y2, e2⟩ := some_of 2 (by omega)
    obtain ⟨y3, e3⟩ := some_of 3 (by omega)
    obtain ⟨y4, e4⟩ := some_of 4 (by omega)
    obtain ⟨y5, e5⟩ := some_of 5 (by omega)
    have h0 := (hel 0 _ rfl).trans e0
    have h1 := (hel 1 _ rfl).trans e1
    have h2 := (hel 2 _ rfl).trans e2
    have h3 := (hel 3 _ rfl).trans e3
    have h4 := (hel 4 _ rfl).trans e4
    have h5 := (hel 5 _ rfl).trans e5
    simp only [List.getElem_toArray, List.getElem_cons_zero, List.getElem_cons_succ, zint, zstring, List.drop_zero, List.drop_succ_cons, List.take_succ_cons, List.take_zero] at h0 h1 h2 h3 h4 h5
    obtain ⟨x0, g0, _, w0⟩ := DataW.trod_int Tryz.underlying3 h0
    simp only [List.cons.injEq, and_true] at g0
    subst g0
    obtain ⟨x1, g1, _, w1⟩ := DataW.trod_int Tryz.underlying3 h1
    simp only [List.cons.injEq, and_true] at g1
    subst g1
    obtain ⟨x2, g2, _, w2⟩ := DataW.trod_int Tryz.underlying3 h2
    simp only [List.cons.injEq, and_true] at g2
    subst g2
    obtain ⟨x3, g3, _, w3⟩ := DataW.trod_string Tryz.underlying9 h3
    simp only [List.cons.injEq, and_true] at g3
    subst g3
    obtain ⟨x4, g4, _, w4⟩ := DataW.trod_string Tryz.underlying9 h4
    simp only [List.cons.injEq, and_true] at g4
    subst g4
    obtain ⟨x5, g5, _, w5⟩ := DataW.trod_string Tryz.underlying9 h5
    simp only [List.cons.injEq, and_true] at g5
    subst g5
    exact ⟨x0, x1, x2, x3, x4, x5, rfl, w0, w1, w2, w3, w4, w5⟩

def SayOk (s : SayT) : Prop := s.shot.size ≤ 9223372036854775807 ∧ s.text.size ≤ 9223372036854775807
set_option maxRecDepth 100000 in
theorem says_in {fuel : Nat} {x : DataW H × List MemPlace} (h0 : DataW.trod enc Tryz.prog w base (fun _ => true) held fuel 22 [v] = some x) : ∃ L : List SayT, SlY w v L := by
  have hc : Tryz.prog.cellsOf 29 = 6 := by kernel_rfl
  have hml : maxLen = 9223372036854775807 := rfl
  rcases open_slice Tryz.underlying22 h0 with ⟨hv, _⟩ | ⟨a, len, cap, m, n, D, Pl, hv, _, hl, hm, hmm, _, hel⟩
  · simp only [List.cons.injEq, and_true] at hv
    subst hv
    exact ⟨[], none, 0, rfl, Nat.le_refl _, by omega, (fun s hs => by cases hs), .inl rfl⟩
  · simp only [List.cons.injEq, and_true] at hv
    subst hv
    have hmc : m = cap := by simpa using hmm
    subst hmc
    rw [hc] at hel
    have hb : ∀ i, i < m → ∃ e : SayT, (∀ j, j < 6 → w.cell? (a.add (i * 6 + j)) = [Value.int .i64 e.kind, .int .i64 e.note, .int .i64 e.frame, .string e.shot, .string e.author, .string e.text][j]?) ∧ SayOk e := fun i hi => by
      obtain ⟨cs', h1, h2⟩ := hel i hi
      obtain ⟨a0, a1, a2, a3, a4, a5, rfl, _, _, _, s3, s4, s5⟩ := say_cells h2
      obtain ⟨_, _, hcell⟩ := World.cells?_some h1
      refine ⟨⟨a0, a1, a2, a3, a4, a5⟩, fun j hj => ?_, ⟨by rw [← hml]; exact s3, by rw [← hml]; exact s5⟩⟩
      have e := hcell j hj
      rw [add_add] at e
      exact e
    by_cases hlen : len = 0
    · subst hlen
      exact ⟨[], some a, m, rfl, Nat.zero_le _, by omega, (fun s hs => by cases hs), .inl rfl⟩
    · obtain ⟨B, hB⟩ := choose_lt (α := SayT) (p := fun i (e : SayT) => (∀ j, j < 6 → w.cell? (a.add (i * 6 + j)) = [Value.int .i64 e.kind, .int .i64 e.note, .int .i64 e.frame, .string e.shot, .string e.author, .string e.text][j]?) ∧ SayOk e) hb
      obtain ⟨b, off, spot⟩ := a
      have hc0 : w.cell? ((⟨b, off, spot⟩ : Addr).add (0 * 6 + 0)) = some (.int .i64 (B 0).kind) := (hB 0 (by omega)).1 0 (by omega)
      have hspot : spot = none := by simpa [Addr.add] using World.cell?_spot hc0
      subst hspot
      have hlt := World.block_lt_of_cell? w _ hc0
      refine ⟨(List.range len).map B, some ⟨b, off, none⟩, m, by simp, by simpa using hl, by omega, fun s hs => ?_, .inr ⟨b, off, rfl, hlt, fun k hk => ?_⟩⟩
      · obtain ⟨i, hi, rfl⟩ := List.mem_map.1 hs
        exact (hB i (by have := List.mem_range.1 hi; omega)).2
      have hk : k < len := by simpa using hk
      have eg : ((List.range len).map B).getD k default = B k := by simp [List.getD, hk]
      have hq : ∀ j, j < 6 → w.cell? ⟨b, off + k * 6 + j, none⟩ = [Value.int .i64 (B k).kind, .int .i64 (B k).note, .int .i64 (B k).frame, .string (B k).shot, .string (B k).author, .string (B k).text][j]? := fun j hj => by
        have h1 := (hB k (by omega)).1 j hj
        rw [addr_add] at h1
        rw [Nat.add_assoc]
        exact h1
      rw [eg]
      exact ⟨hq 0 (by omega), hq 1 (by omega), hq 2 (by omega), hq 3 (by omega), hq 4 (by omega), hq 5 (by omega)⟩

set_option maxRecDepth 100000 in
theorem open_says (hv : Value.okWide Tryz.prog w r b0 22 v) (h : DataW.Trod enc Tryz.prog w base (fun _ => true) held 22 v d p) : ∃ L : List SayT, SlY w v L := by
  obtain ⟨fuel, h0⟩ := h
  have hcs : v.cells.toList = [v] := by
    simp only [Value.okWide, Tryz.underlying22] at hv
    cases v <;> simp_all [Value.cells, Cell.okWide, Cell.ok]
  rw [hcs] at h0
  exact says_in h0
end
end Go.Proofs.YtilninaminaadaaGreatDoor
