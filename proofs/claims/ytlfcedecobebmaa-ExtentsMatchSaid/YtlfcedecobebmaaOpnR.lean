/- The singles of a frame that came in are words of 32 bits. -/
import Derived.Test.YtlfcedecobebmaaOpen
import Derived.OpenShut
namespace Go.Proofs.Ytlfcedecobebmaa
open Go.RowKit Go.ChangeShapes Go.WideShapes Go.Deep
section
variable {H : Type} {enc : TypeId × Value → H} {w : World} {base : Nat} {held : Bool} {d : DataW H} {p : List MemPlace}
theorem trod_f32w {P : Program} {t : TypeId} {fuel b : Nat} {spare : Nat → Bool} {x : DataW H × List MemPlace} (ht : P.underlying t = some (.float .f32)) (h : DataW.trod enc P w base spare held fuel t [.float .f32 b] = some x) : b < 4294967296 := by
  cases fuel with
  | zero => simp [DataW.trod] at h
  | succ n =>
    unfold DataW.trod at h
    rw [ht] at h
    simp only [Option.ite_none_right_eq_some] at h
    have := h.1.2
    simpa [Lit.wf] using this
theorem f32s_bits {fuel : Nat} {v : Value} {xs : List Nat} {x : DataW H × List MemPlace} (h : DataW.trod enc Try.prog w base (fun _ => true) held fuel 24 [v] = some x) (hsl : Sl w v xs) : ∀ b ∈ xs, b < 4294967296 := by
  have hc : Try.prog.cellsOf 29 = 1 := by kernel_rfl
  rcases hsl with ⟨b, o, c, rfl, hne, hrd⟩ | ⟨rfl, _⟩
  · rcases open_slice1 Try.underlying24 hc h with ⟨hv, _⟩ | ⟨a, len, cap, m, n, V, D, Pl, hv, _, hl, hm, hmm, _, hel⟩
    · simp at hv
    · simp only [List.cons.injEq, and_true, Value.slice.injEq, Option.some.injEq] at hv
      obtain ⟨rfl, rfl, rfl⟩ := hv
      intro y hy
      obtain ⟨k, hk, rfl⟩ := List.mem_iff_getElem.1 hy
      have hmc : m = c := by simpa using hmm
      obtain ⟨h1, h2⟩ := hel k (by omega)
      have h3 := hrd.cell k hk
      rw [addr_add, h3] at h1
      rw [← Option.some.inj h1] at h2
      have h4 := trod_f32w Try.underlying29 h2
      rw [List.getD_eq_getElem?_getD, List.getElem?_eq_getElem hk] at h4
      exact h4
  · intro b hb; cases hb
set_option maxRecDepth 100000 in
theorem frame_bits {x y wd ht : Int} {sl : Value} {xs : List Nat} (h : DataW.Trod enc Try.prog w base (fun _ => true) held 26 (.agg #[.int .i64 x, .int .i64 y, .int .i64 wd, .int .i64 ht, sl]) d p) (hsl : Sl w sl xs) : ∀ b ∈ xs, b < 4294967296 := by
  obtain ⟨fuel, hf⟩ := h
  obtain ⟨y0, y1, m, _, hl, h0, h1⟩ := trod_struct2 Try.underlying26 hf
  have hr : Try.prog.cellsOf 23 = 4 := by kernel_rfl
  have hs : Try.prog.cellsOf 24 = 1 := by kernel_rfl
  simp only [Value.cells, hr, hs, List.drop_zero, List.drop_succ_cons, List.take_succ_cons, List.take_zero] at h0 h1
  exact f32s_bits h1 hsl
end
end Go.Proofs.Ytlfcedecobebmaa
