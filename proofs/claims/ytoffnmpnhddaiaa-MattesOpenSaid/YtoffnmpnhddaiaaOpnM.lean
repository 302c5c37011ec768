/- Arguments that came in, opened: mattes. -/
import Derived.Test.YtoffnmpnhddaiaaOpn2
namespace Go.Proofs.Ytoffnmpnhddaiaa
open Go.RowKit Go.ChangeShapes Go.WideShapes Go.Deep
section
variable {H : Type} {enc : TypeId × Value → H} {w : World} {base : Nat} {held : Bool} {r : Reach} {b0 : Nat} {v : Value} {d : DataW H} {p : List MemPlace}

set_option maxRecDepth 100000 in
theorem open_matte (hv : Value.okWide Try.prog w r b0 62 v) (h : DataW.Trod enc Try.prog w base (fun _ => true) held 62 v d p) :
    ∃ (x y wd ht : Int) (sl : Value) (xs : List Nat), v = .agg #[.int .i64 x, .int .i64 y, .int .i64 wd, .int .i64 ht, sl] ∧ Sl w sl xs ∧ xs.length ≤ maxLen ∧ (∃ a n c, sl = .slice a n c) ∧
      (Lit.int .i64 x).wf = true ∧ (Lit.int .i64 y).wf = true ∧ (Lit.int .i64 wd).wf = true ∧ (Lit.int .i64 ht).wf = true := by
  obtain ⟨cs, rfl, hsz⟩ := okWide_struct Try.underlying62 hv
  obtain ⟨fuel, hf⟩ := h
  obtain ⟨y0, y1, n, _, hl, h0, h1⟩ := trod_struct2 Try.underlying62 hf
  have hc : Try.prog.cellsOf 62 = 5 := by kernel_rfl
  have hr : Try.prog.cellsOf 23 = 4 := by kernel_rfl
  have hs : Try.prog.cellsOf 24 = 1 := by kernel_rfl
  obtain ⟨l⟩ := cs
  match l, hsz.trans hc with
  | [c0, c1, c2, c3, c4], _ =>
    simp only [Value.cells, hr, hs, List.drop_zero, List.drop_succ_cons, List.take_succ_cons, List.take_zero] at h0 h1
    obtain ⟨a, b, c, d, he, wa, wb, wc, wd⟩ := trod_region h0
    obtain ⟨xs, hsl, hlen, hform⟩ := trod_f32s h1
    simp only [List.cons.injEq, and_true] at he
    obtain ⟨rfl, rfl, rfl, rfl⟩ := he
    exact ⟨a, b, c, d, c4, xs, rfl, hsl, hlen, hform, wa, wb, wc, wd⟩
end
end Go.Proofs.Ytoffnmpnhddaiaa
