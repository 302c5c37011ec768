/- Codes, integers and strings that came in. -/
import Derived.Test.YtjicgbpnplmpbaaDoorOpn2
import Derived.OpenShut
namespace Go.Proofs.YtjicgbpnplmpbaaDoor
open Go.RowKit Go.ChangeShapes Go.WideShapes Go.Deep
section
variable {H : Type} {enc : TypeId × Value → H} {w : World} {base : Nat} {spare : Nat → Bool} {held : Bool} {r : Reach} {b0 : Nat} {v : Value} {d : DataW H} {p : List MemPlace}
theorem int_wf {n : Int} (h : (Lit.int .i64 n).wf = true) : -9223372036854775808 ≤ n ∧ n ≤ 9223372036854775807 := by
  have h1 : IntKind.i64.min = -9223372036854775808 := rfl
  have h2 : IntKind.i64.max = 9223372036854775807 := rfl
  rw [Lit.wf, Bool.and_eq_true, decide_eq_true_eq, decide_eq_true_eq, h1, h2] at h
  exact h
set_option maxRecDepth 100000 in
theorem open_intw (hv : Value.okWide Tryd.prog w r b0 3 v) (h : DataW.Trod enc Tryd.prog w base spare held 3 v d p) : ∃ n : Int, v = .int .i64 n ∧ -9223372036854775808 ≤ n ∧ n ≤ 9223372036854775807 := by
  obtain ⟨n, rfl, _, _, hw⟩ := open_int Tryd.underlying3 hv h
  exact ⟨n, rfl, int_wf hw⟩

set_option maxRecDepth 100000 in
theorem trod_code {fuel : Nat} {cs : List Value} {x : DataW H × List MemPlace} (h : DataW.trod enc Tryd.prog w base spare held fuel 59 cs = some x) :
    ∃ a b c d : Int, cs = [.int .i64 a, .int .i64 b, .int .i64 c, .int .i64 d] ∧ (Lit.int .i64 a).wf = true ∧ (Lit.int .i64 b).wf = true ∧ (Lit.int .i64 c).wf = true ∧ (Lit.int .i64 d).wf = true := by
  obtain ⟨xs, n, _, _, hl, _, hf⟩ := DataW.trod_struct Tryd.underlying59 h
  have hc : Tryd.prog.cellsOf 59 = 4 := by kernel_rfl
  have hi : Tryd.prog.cellsOf 3 = 1 := by kernel_rfl
  rw [hc] at hl
  match cs, hl with
  | [c0, c1, c2, c3], _ =>
    have h0 : DataW.trod enc Tryd.prog w base spare held n 3 [c0] = xs[0]? := by have := hf 0 _ rfl; simpa [hi] using this
    have h1 : DataW.trod enc Tryd.prog w base spare held n 3 [c1] = xs[1]? := by have := hf 1 _ rfl; simpa [hi] using this
    have h2 : DataW.trod enc Tryd.prog w base spare held n 3 [c2] = xs[2]? := by have := hf 2 _ rfl; simpa [hi] using this
    have h3 : DataW.trod enc Tryd.prog w base spare held n 3 [c3] = xs[3]? := by have := hf 3 _ rfl; simpa [hi] using this
    have some_of : ∀ i, i < 4 → ∃ y, xs[i]? = some y := by
      intro i hi4
      have hlx : xs.length = 4 := by assumption
      exact ⟨xs[i]'(by omega), List.getElem?_eq_getElem (by omega)⟩
    obtain ⟨y0, e0⟩ := some_of 0 (by omega)
    obtain ⟨y1, e1⟩ := some_of 1 (by omega)
    obtain ⟨y2, e2⟩ := some_of 2 (by omega)
    obtain ⟨y3, e3⟩ := some_of 3 (by omega)
    obtain ⟨a, ha, _, wa⟩ := DataW.trod_int Tryd.underlying3 (h0.trans e0)
    obtain ⟨b, hb, _, wb⟩ := DataW.trod_int Tryd.underlying3 (h1.trans e1)
    obtain ⟨c, hc, _, wc⟩ := DataW.trod_int Tryd.underlying3 (h2.trans e2)
    obtain ⟨d, hd, _, wd⟩ := DataW.trod_int Tryd.underlying3 (h3.trans e3)
    simp only [List.cons.injEq, and_true] at ha hb hc hd
    subst ha hb hc hd
    exact ⟨a, b, c, d, rfl, wa, wb, wc, wd⟩
set_option maxRecDepth 100000 in
theorem open_code (hv : Value.okWide Tryd.prog w r b0 59 v) (h : DataW.Trod enc Tryd.prog w base (fun _ => true) held 59 v d p) :
    ∃ a b c e : Int, v = .agg #[.int .i64 a, .int .i64 b, .int .i64 c, .int .i64 e] := by
  obtain ⟨cs, rfl, _⟩ := okWide_struct Tryd.underlying59 hv
  obtain ⟨fuel, hf⟩ := h
  obtain ⟨a, b, c, e, he, _⟩ := trod_code hf
  obtain ⟨l⟩ := cs
  simp only [Value.cells] at he
  have hl : l = [.int .i64 a, .int .i64 b, .int .i64 c, .int .i64 e] := he
  subst hl
  exact ⟨a, b, c, e, rfl⟩
end
end Go.Proofs.YtjicgbpnplmpbaaDoor
