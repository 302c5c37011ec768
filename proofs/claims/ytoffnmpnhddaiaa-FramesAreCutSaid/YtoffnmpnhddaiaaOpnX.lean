/- A pixel that came in, opened. -/
import Derived.Test.YtoffnmpnhddaiaaOpn2
namespace Go.Proofs.Ytoffnmpnhddaiaa
open Go.RowKit Go.ChangeShapes Go.WideShapes Go.Deep
section
variable {H : Type} {enc : TypeId × Value → H} {w : World} {base : Nat} {held : Bool} {r : Reach} {b0 : Nat} {v : Value} {d : DataW H} {p : List MemPlace}

set_option maxRecDepth 100000 in
theorem open_pixel (hv : Value.okWide Try.prog w r b0 35 v) (h : DataW.Trod enc Try.prog w base (fun _ => true) held 35 v d p) :
    ∃ F : Nat → Nat, v = .agg #[.float .f32 (F 0), .float .f32 (F 1), .float .f32 (F 2), .float .f32 (F 3)] := by
  obtain ⟨cs, rfl, hsz⟩ := okWide_array Try.underlying35 hv
  obtain ⟨fuel, hf⟩ := h
  obtain ⟨xs, n, _, _, hl, hxl, hel⟩ := DataW.trod_array Try.underlying35 hf
  have hc : Try.prog.cellsOf 35 = 4 := by kernel_rfl
  have hs : Try.prog.cellsOf 33 = 1 := by kernel_rfl
  obtain ⟨l⟩ := cs
  match l, hsz.trans hc with
  | [v0, v1, v2, v3], _ =>
    have some_of : ∀ i, i < 4 → ∃ y, xs[i]? = some y := by
      intro i hi4
      exact ⟨xs[i]'(by omega), List.getElem?_eq_getElem (by omega)⟩
    obtain ⟨y0, e0⟩ := some_of 0 (by omega)
    obtain ⟨y1, e1⟩ := some_of 1 (by omega)
    obtain ⟨y2, e2⟩ := some_of 2 (by omega)
    obtain ⟨y3, e3⟩ := some_of 3 (by omega)
    have h0 := (hel 0 (by omega)).trans e0
    have h1 := (hel 1 (by omega)).trans e1
    have h2 := (hel 2 (by omega)).trans e2
    have h3 := (hel 3 (by omega)).trans e3
    simp only [Value.cells, hs, List.drop_zero, List.drop_succ_cons, List.take_succ_cons, List.take_zero, Nat.zero_mul] at h0 h1 h2 h3
    obtain ⟨x0, rfl⟩ := trod_f32 Try.underlying33 h0
    obtain ⟨x1, rfl⟩ := trod_f32 Try.underlying33 h1
    obtain ⟨x2, rfl⟩ := trod_f32 Try.underlying33 h2
    obtain ⟨x3, rfl⟩ := trod_f32 Try.underlying33 h3
    exact ⟨fun c => match c with | 0 => x0 | 1 => x1 | 2 => x2 | _ => x3, rfl⟩
end
end Go.Proofs.Ytoffnmpnhddaiaa
