/- Windows that came in, opened. (printed by gen_opnw.py) -/
import Derived.Test.YtfkiljhjiogdlaaOpn2
import Derived.Test.YtfkiljhjiogdlaaWnB
import Derived.OpenShut
namespace Go.Proofs.Ytfkiljhjiogdlaa
open Go.RowKit Go.ChangeShapes Go.WideShapes Go.Deep
section
variable {H : Type} {enc : TypeId × Value → H} {w : World} {base : Nat} {held : Bool} {r : Reach} {b0 : Nat} {v : Value} {d : DataW H} {p : List MemPlace}

set_option maxRecDepth 100000 in
theorem point_cells {fuel : Nat} {cs : List Value} {y : DataW H × List MemPlace} (hf : DataW.trod enc Try.prog w base (fun _ => true) held fuel 71 cs = some y) :
    ∃ (a0 : Int) (a1 : Int), cs = [.int .i64 a0, .int .i64 a1] ∧ (Lit.int .i64 a0).wf = true ∧ (Lit.int .i64 a1).wf = true := by
  obtain ⟨xs, n, _, _, hl, hxl, hel⟩ := DataW.trod_struct Try.underlying71 hf
  have hc : Try.prog.cellsOf 71 = 2 := by kernel_rfl
  have zint : Try.prog.cellsOf 3 = 1 := by kernel_rfl
  have hxl2 : xs.length = 2 := hxl
  match cs, hl.trans hc with
  | [v0, v1], _ =>
    have some_of : ∀ i, i < 2 → ∃ y, xs[i]? = some y := by
      intro i hi4
      exact ⟨xs[i]'(by omega), List.getElem?_eq_getElem (by omega)⟩
    obtain ⟨y0, e0⟩ := some_of 0 (by omega)
    obtain ⟨y1, e1⟩ := some_of 1 (by omega)
    have h0 := (hel 0 _ rfl).trans e0
    have h1 := (hel 1 _ rfl).trans e1
    simp only [List.getElem_toArray, List.getElem_cons_zero, List.getElem_cons_succ, zint, List.drop_zero, List.drop_succ_cons, List.take_succ_cons, List.take_zero] at h0 h1
    obtain ⟨x0, g0, _, w0⟩ := DataW.trod_int Try.underlying3 h0
    simp only [List.cons.injEq, and_true] at g0
    subst g0
    obtain ⟨x1, g1, _, w1⟩ := DataW.trod_int Try.underlying3 h1
    simp only [List.cons.injEq, and_true] at g1
    subst g1
    exact ⟨x0, x1, rfl, w0, w1⟩

set_option maxRecDepth 100000 in
theorem points_in {fuel : Nat} {x : DataW H × List MemPlace} (h0 : DataW.trod enc Try.prog w base (fun _ => true) held fuel 23 [v] = some x) : ∃ es : List (Int × Int), SlP w v es := by
  have hc : Try.prog.cellsOf 71 = 2 := by kernel_rfl
  rcases open_slice Try.underlying23 h0 with ⟨hv, _⟩ | ⟨a, len, cap, m, n, D, Pl, hv, _, hl, hm, hmm, _, hel⟩
  · simp only [List.cons.injEq, and_true] at hv
    subst hv
    exact ⟨[], none, 0, rfl, Nat.zero_le _, .inl rfl⟩
  · simp only [List.cons.injEq, and_true] at hv
    subst hv
    have hmc : m = cap := by simpa using hmm
    subst hmc
    rw [hc] at hel
    have hb : ∀ i, i < m → ∃ e : Int × Int, ∀ j, j < 2 → w.cell? (a.add (i * 2 + j)) = [Value.int .i64 e.1, .int .i64 e.2][j]? := fun i hi => by
      obtain ⟨cs', h1, h2⟩ := hel i hi
      obtain ⟨a0, a1, rfl, _⟩ := point_cells h2
      obtain ⟨_, _, hcell⟩ := World.cells?_some h1
      refine ⟨⟨a0, a1⟩, fun j hj => ?_⟩
      have e := hcell j hj
      rw [add_add] at e
      exact e
    by_cases hlen : len = 0
    · subst hlen
      exact ⟨[], some a, m, rfl, Nat.zero_le _, .inl rfl⟩
    · obtain ⟨B, hB⟩ := choose_lt (α := Int × Int) (p := fun i (e : Int × Int) => ∀ j, j < 2 → w.cell? (a.add (i * 2 + j)) = [Value.int .i64 e.1, .int .i64 e.2][j]?) hb
      obtain ⟨b, off, spot⟩ := a
      have hc0 : w.cell? ((⟨b, off, spot⟩ : Addr).add (0 * 2 + 0)) = some (.int .i64 (B 0).1) := hB 0 (by omega) 0 (by omega)
      have hspot : spot = none := by simpa [Addr.add] using World.cell?_spot hc0
      subst hspot
      have hlt := World.block_lt_of_cell? w _ hc0
      refine ⟨(List.range len).map B, some ⟨b, off, none⟩, m, by simp, by simpa using Nat.le_trans hl hm, .inr ⟨b, off, rfl, hlt, fun k hk => ?_⟩⟩
      have hk : k < len := by simpa using hk
      have eg : ((List.range len).map B).getD k default = B k := by simp [List.getD, hk]
      have hq : ∀ j, j < 2 → w.cell? ⟨b, off + k * 2 + j, none⟩ = [Value.int .i64 (B k).1, .int .i64 (B k).2][j]? := fun j hj => by
        have h1 := hB k (by omega) j hj
        rw [addr_add] at h1
        rw [Nat.add_assoc]
        exact h1
      rw [eg]
      exact ⟨hq 0 (by omega), hq 1 (by omega)⟩

set_option maxRecDepth 100000 in
theorem open_window (hv : Value.okWide Try.prog w r b0 25 v) (h : DataW.Trod enc Try.prog w base (fun _ => true) held 25 v d p) :
    ∃ (kind : Int) (X Y Wd H S : Nat) (pa : Option Addr) (n c : Nat) (out : Bool) (ps : List (Int × Int)), v = .agg #[.int .i64 kind, .float .f32 X, .float .f32 Y, .float .f32 Wd, .float .f32 H, .float .f32 S, .slice pa n c, .bool out] ∧ SlP w (.slice pa n c) ps := by
  obtain ⟨cs, rfl, hsz⟩ := okWide_struct Try.underlying25 hv
  obtain ⟨fuel, hf⟩ := h
  obtain ⟨xs, n, _, _, hl, hxl, hel⟩ := DataW.trod_struct Try.underlying25 hf
  have hc : Try.prog.cellsOf 25 = 8 := by kernel_rfl
  have hs : Try.prog.cellsOf 23 = 1 := by kernel_rfl
  have hi : Try.prog.cellsOf 3 = 1 := by kernel_rfl
  have hfl : Try.prog.cellsOf 22 = 1 := by kernel_rfl
  have hbo : Try.prog.cellsOf 4 = 1 := by kernel_rfl
  have hxl2 : xs.length = 8 := hxl
  obtain ⟨l⟩ := cs
  match l, hsz.trans hc with
  | [v0, v1, v2, v3, v4, v5, v6, v7], _ =>
    have some_of : ∀ i, i < 8 → ∃ y, xs[i]? = some y := by
      intro i hi4
      exact ⟨xs[i]'(by omega), List.getElem?_eq_getElem (by omega)⟩
    obtain ⟨⟨y0, q0⟩, e0⟩ := some_of 0 (by omega)
    have h0 := (hel 0 _ rfl).trans e0
    obtain ⟨⟨y1, q1⟩, e1⟩ := some_of 1 (by omega)
    have h1 := (hel 1 _ rfl).trans e1
    obtain ⟨⟨y2, q2⟩, e2⟩ := some_of 2 (by omega)
    have h2 := (hel 2 _ rfl).trans e2
    obtain ⟨⟨y3, q3⟩, e3⟩ := some_of 3 (by omega)
    have h3 := (hel 3 _ rfl).trans e3
    obtain ⟨⟨y4, q4⟩, e4⟩ := some_of 4 (by omega)
    have h4 := (hel 4 _ rfl).trans e4
    obtain ⟨⟨y5, q5⟩, e5⟩ := some_of 5 (by omega)
    have h5 := (hel 5 _ rfl).trans e5
    obtain ⟨⟨y6, q6⟩, e6⟩ := some_of 6 (by omega)
    have h6 := (hel 6 _ rfl).trans e6
    obtain ⟨⟨y7, q7⟩, e7⟩ := some_of 7 (by omega)
    have h7 := (hel 7 _ rfl).trans e7
    simp only [Value.cells, List.getElem_toArray, List.getElem_cons_zero, List.getElem_cons_succ, hs, hi, hfl, hbo, List.drop_zero, List.drop_succ_cons, List.take_succ_cons, List.take_zero] at h0 h1 h2 h3 h4 h5 h6 h7
    obtain ⟨z, hz, _, hzw⟩ := DataW.trod_int Try.underlying3 h0
    obtain ⟨x1, rfl⟩ := trod_f32 Try.underlying22 h1
    obtain ⟨x2, rfl⟩ := trod_f32 Try.underlying22 h2
    obtain ⟨x3, rfl⟩ := trod_f32 Try.underlying22 h3
    obtain ⟨x4, rfl⟩ := trod_f32 Try.underlying22 h4
    obtain ⟨x5, rfl⟩ := trod_f32 Try.underlying22 h5
    obtain ⟨es, hes⟩ := points_in h6
    obtain ⟨o7, ho, _⟩ := DataW.trod_bool Try.underlying4 h7
    simp only [List.cons.injEq, and_true] at hz ho
    subst hz ho
    obtain ⟨pa, c, hsl, _⟩ := hes
    subst hsl
    exact ⟨z, x1, x2, x3, x4, x5, pa, es.length, c, o7, es, rfl, ⟨pa, c, rfl, by assumption⟩⟩
end
end Go.Proofs.Ytfkiljhjiogdlaa
