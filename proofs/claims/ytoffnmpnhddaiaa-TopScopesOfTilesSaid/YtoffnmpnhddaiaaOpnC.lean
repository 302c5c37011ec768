/- Bins that came in, opened. -/
import Derived.Test.YtoffnmpnhddaiaaOpn2
import Derived.OpenShut
namespace Go.Proofs.Ytoffnmpnhddaiaa
open Go.RowKit Go.ChangeShapes Go.WideShapes Go.Deep
section
variable {H : Type} {enc : TypeId × Value → H} {w : World} {base : Nat} {held : Bool} {r : Reach} {b0 : Nat} {v : Value} {d : DataW H} {p : List MemPlace}

set_option maxRecDepth 100000 in
theorem open_bins (hv : Value.okWide Try.prog w r b0 107 v) (h : DataW.Trod enc Try.prog w base (fun _ => true) held 107 v d p) :
    ∃ (lo hi : Nat) (m : Int), v = .agg #[.float .f32 lo, .float .f32 hi, .int .i64 m] := by
  obtain ⟨cs, rfl, hsz⟩ := okWide_struct Try.underlying107 hv
  obtain ⟨fuel, hf⟩ := h
  obtain ⟨xs, n, _, _, hl, hxl, hel⟩ := DataW.trod_struct Try.underlying107 hf
  have hc : Try.prog.cellsOf 107 = 3 := by kernel_rfl
  have hs : Try.prog.cellsOf 33 = 1 := by kernel_rfl
  have hi : Try.prog.cellsOf 3 = 1 := by kernel_rfl
  have hxl2 : xs.length = 3 := hxl
  obtain ⟨l⟩ := cs
  match l, hsz.trans hc with
  | [v0, v1, v2], _ =>
    have some_of : ∀ i, i < 3 → ∃ y, xs[i]? = some y := by
      intro i hi4
      exact ⟨xs[i]'(by omega), List.getElem?_eq_getElem (by omega)⟩
    obtain ⟨y0, e0⟩ := some_of 0 (by omega)
    obtain ⟨y1, e1⟩ := some_of 1 (by omega)
    obtain ⟨y2, e2⟩ := some_of 2 (by omega)
    have h0 := (hel 0 _ rfl).trans e0
    have h1 := (hel 1 _ rfl).trans e1
    have h2 := (hel 2 _ rfl).trans e2
    simp only [Value.cells, List.getElem_toArray, List.getElem_cons_zero, List.getElem_cons_succ, hs, hi, List.drop_zero, List.drop_succ_cons, List.take_succ_cons, List.take_zero] at h0 h1 h2
    obtain ⟨x0, rfl⟩ := trod_f32 Try.underlying33 h0
    obtain ⟨x1, rfl⟩ := trod_f32 Try.underlying33 h1
    obtain ⟨z, hz, _, _⟩ := DataW.trod_int Try.underlying3 h2
    simp only [List.cons.injEq, and_true] at hz
    subst hz
    exact ⟨x0, x1, z, rfl⟩
end
end Go.Proofs.Ytoffnmpnhddaiaa
