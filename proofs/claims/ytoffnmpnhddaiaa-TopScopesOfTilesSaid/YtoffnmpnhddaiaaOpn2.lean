/- Arguments that came in, opened: single words, regions, pixels, arrays of slices. -/
import Derived.Test.YtoffnmpnhddaiaaOpen
import Derived.OpenShut
namespace Go.Proofs.Ytoffnmpnhddaiaa
open Go.RowKit Go.ChangeShapes Go.WideShapes Go.Deep

theorem okWide_array {P : Program} {w : World} {r : Reach} {b0 : Nat} {t e : TypeId} {n : Nat} {v : Value} (ht : P.underlying t = some (.array n e)) (h : Value.okWide P w r b0 t v) : ∃ cs, v = .agg cs ∧ cs.size = P.cellsOf t := by
  simp only [Value.okWide, ht] at h
  obtain ⟨cs, h1, h2, _⟩ := h
  exact ⟨cs, h1, h2⟩

theorem okWide_float {P : Program} {w : World} {r : Reach} {b0 : Nat} {t : TypeId} {k : FloatKind} {v : Value} (ht : P.underlying t = some (.float k)) (h : Value.okWide P w r b0 t v) : ∃ b, v = .float k b := by
  simp only [Value.okWide, ht, Cell.okWide] at h
  cases v <;> simp_all [Cell.ok]

section
variable {H : Type} {enc : TypeId × Value → H} {w : World} {base : Nat} {held : Bool} {r : Reach} {b0 : Nat} {v : Value} {d : DataW H} {p : List MemPlace}

set_option maxRecDepth 100000 in
theorem open_region2 (hv : Value.okWide Try.prog w r b0 23 v) (h : DataW.Trod enc Try.prog w base (fun _ => true) held 23 v d p) :
    ∃ a b c e : Int, v = .agg #[.int .i64 a, .int .i64 b, .int .i64 c, .int .i64 e] ∧ (Lit.int .i64 a).wf = true ∧ (Lit.int .i64 b).wf = true ∧ (Lit.int .i64 c).wf = true ∧ (Lit.int .i64 e).wf = true := by
  obtain ⟨cs, rfl, _⟩ := okWide_struct Try.underlying23 hv
  obtain ⟨fuel, hf⟩ := h
  obtain ⟨a, b, c, e, he, w1, w2, w3, w4⟩ := trod_region hf
  obtain ⟨l⟩ := cs
  simp only [Value.cells] at he
  have hl : l = [.int .i64 a, .int .i64 b, .int .i64 c, .int .i64 e] := he
  subst hl
  exact ⟨a, b, c, e, rfl, w1, w2, w3, w4⟩

set_option maxRecDepth 100000 in
theorem open_planes (hv : Value.okWide Try.prog w r b0 44 v) (h : DataW.Trod enc Try.prog w base (fun _ => true) held 44 v d p) :
    ∃ (a0 a1 a2 a3 : Option Addr) (n0 n1 n2 n3 c0 c1 c2 c3 : Nat) (F : Nat → List Nat), v = .agg #[.slice a0 n0 c0, .slice a1 n1 c1, .slice a2 n2 c2, .slice a3 n3 c3] ∧
      Sl w (.slice a0 n0 c0) (F 0) ∧ Sl w (.slice a1 n1 c1) (F 1) ∧ Sl w (.slice a2 n2 c2) (F 2) ∧ Sl w (.slice a3 n3 c3) (F 3) := by
  obtain ⟨cs, rfl, hsz⟩ := okWide_array Try.underlying44 hv
  obtain ⟨fuel, hf⟩ := h
  obtain ⟨xs, n, _, _, hl, hxl, hel⟩ := DataW.trod_array Try.underlying44 hf
  have hc : Try.prog.cellsOf 44 = 4 := by kernel_rfl
  have hs : Try.prog.cellsOf 24 = 1 := by kernel_rfl
  obtain ⟨l⟩ := cs
  match l, hsz.trans hc with
  | [v0, v1, v2, v3], _ =>
    have some_of : ∀ i, i < 4 → ∃ y, xs[i]? = some y := by
      intro i hi4
      exact ⟨xs[i]'(by omega), List.getElem?_eq_getElem (by omega)⟩
    obtain ⟨y0, e0⟩ := some_of 0 (by omega)
    obtain ⟨y1, e1⟩ := some_of 1 (by omega)
    obtain ⟨y2, e2⟩ := some_of 2 (by omega)
    obtain ⟨y3, e3⟩ := some_of 3 (by omega)
    have h0 := (hel 0 (by omega)).trans e0
    have h1 := (hel 1 (by omega)).trans e1
    have h2 := (hel 2 (by omega)).trans e2
    have h3 := (hel 3 (by omega)).trans e3
    simp only [Value.cells, hs, List.drop_zero, List.drop_succ_cons, List.take_succ_cons, List.take_zero, Nat.zero_mul] at h0 h1 h2 h3
    obtain ⟨x0, s0, _, a0, n0, c0, rfl⟩ := trod_f32s h0
    obtain ⟨x1, s1, _, a1, n1, c1, rfl⟩ := trod_f32s h1
    obtain ⟨x2, s2, _, a2, n2, c2, rfl⟩ := trod_f32s h2
    obtain ⟨x3, s3, _, a3, n3, c3, rfl⟩ := trod_f32s h3
    exact ⟨a0, a1, a2, a3, n0, n1, n2, n3, c0, c1, c2, c3, fun c => match c with | 0 => x0 | 1 => x1 | 2 => x2 | _ => x3, rfl, s0, s1, s2, s3⟩
end
end Go.Proofs.Ytoffnmpnhddaiaa
