/- Arguments that came in, opened: regions, frames, slices of singles. -/
import Derived.Test.YtlfcedecobebmaaMem
import Derived.ProofKit
import Derived.Deep.Slices
namespace Go.Proofs.Ytlfcedecobebmaa
open Go.RowKit Go.ChangeShapes Go.WideShapes Go.Deep
section
variable {H : Type} {enc : TypeId × Value → H} {w : World} {base : Nat} {spare : Nat → Bool} {held : Bool}

theorem addr_add (b off k : Nat) : (⟨b, off, none⟩ : Addr).add k = ⟨b, off + k, none⟩ := by unfold Addr.add; split <;> simp_all
theorem trod_f32 {P : Program} {t : TypeId} {fuel : Nat} {v : Value} {x : DataW H × List MemPlace} (ht : P.underlying t = some (.float .f32)) (h : DataW.trod enc P w base spare held fuel t [v] = some x) : ∃ b, v = .float .f32 b := by
  cases fuel with
  | zero => simp [DataW.trod] at h
  | succ n =>
    unfold DataW.trod at h
    rw [ht] at h
    cases v <;> simp_all

set_option maxRecDepth 100000 in
theorem trod_region {fuel : Nat} {cs : List Value} {x : DataW H × List MemPlace} (h : DataW.trod enc Try.prog w base spare held fuel 23 cs = some x) :
    ∃ a b c d : Int, cs = [.int .i64 a, .int .i64 b, .int .i64 c, .int .i64 d] ∧ (Lit.int .i64 a).wf = true ∧ (Lit.int .i64 b).wf = true ∧ (Lit.int .i64 c).wf = true ∧ (Lit.int .i64 d).wf = true := by
  obtain ⟨xs, n, _, _, hl, _, hf⟩ := DataW.trod_struct Try.underlying23 h
  have hc : Try.prog.cellsOf 23 = 4 := by kernel_rfl
  have hi : Try.prog.cellsOf 3 = 1 := by kernel_rfl
  rw [hc] at hl
  match cs, hl with
  | [c0, c1, c2, c3], _ =>
    have h0 : DataW.trod enc Try.prog w base spare held n 3 [c0] = xs[0]? := by have := hf 0 _ rfl; simpa [hi] using this
    have h1 : DataW.trod enc Try.prog w base spare held n 3 [c1] = xs[1]? := by have := hf 1 _ rfl; simpa [hi] using this
    have h2 : DataW.trod enc Try.prog w base spare held n 3 [c2] = xs[2]? := by have := hf 2 _ rfl; simpa [hi] using this
    have h3 : DataW.trod enc Try.prog w base spare held n 3 [c3] = xs[3]? := by have := hf 3 _ rfl; simpa [hi] using this
    have some_of : ∀ i, i < 4 → ∃ y, xs[i]? = some y := by
      intro i hi4
      have hlx : xs.length = 4 := by assumption
      exact ⟨xs[i]'(by omega), List.getElem?_eq_getElem (by omega)⟩
    obtain ⟨y0, e0⟩ := some_of 0 (by omega)
    obtain ⟨y1, e1⟩ := some_of 1 (by omega)
    obtain ⟨y2, e2⟩ := some_of 2 (by omega)
    obtain ⟨y3, e3⟩ := some_of 3 (by omega)
    obtain ⟨a, ha, _, wa⟩ := DataW.trod_int Try.underlying3 (h0.trans e0)
    obtain ⟨b, hb, _, wb⟩ := DataW.trod_int Try.underlying3 (h1.trans e1)
    obtain ⟨c, hc, _, wc⟩ := DataW.trod_int Try.underlying3 (h2.trans e2)
    obtain ⟨d, hd, _, wd⟩ := DataW.trod_int Try.underlying3 (h3.trans e3)
    simp only [List.cons.injEq, and_true] at ha hb hc hd
    subst ha hb hc hd
    exact ⟨a, b, c, d, rfl, wa, wb, wc, wd⟩

set_option maxRecDepth 100000 in
theorem trod_f32s {fuel : Nat} {v : Value} {x : DataW H × List MemPlace} (h : DataW.trod enc Try.prog w base (fun _ => true) held fuel 24 [v] = some x) :
    ∃ xs : List Nat, Sl w v xs ∧ xs.length ≤ maxLen ∧ (∃ a n c, v = .slice a n c) := by
  have hc : Try.prog.cellsOf 29 = 1 := by kernel_rfl
  rcases open_slice1 Try.underlying24 hc h with ⟨hv, _⟩ | ⟨a, len, cap, m, n, V, D, Pl, hv, _, hl, hm, hmm, _, hel⟩
  · simp only [List.cons.injEq, and_true] at hv
    subst hv
    exact ⟨[], .inr ⟨rfl, none, 0, rfl⟩, Nat.zero_le _, _, _, _, rfl⟩
  · simp only [List.cons.injEq, and_true] at hv
    subst hv
    have hmc : m = cap := by simpa using hmm
    subst hmc
    have hb : ∀ i, i < m → ∃ b, V i = .float .f32 b := fun i hi => trod_f32 Try.underlying29 (hel i hi).2
    by_cases hlen : len = 0
    · subst hlen
      exact ⟨[], .inr ⟨rfl, _, _, rfl⟩, Nat.zero_le _, _, _, _, rfl⟩
    · obtain ⟨B, hB⟩ := choose_lt (α := Nat) (p := fun i b => V i = .float .f32 b) hb
      obtain ⟨b, off, spot⟩ := a
      have hc0 := (hel 0 (by omega)).1
      have hspot : spot = none := by simpa [Addr.add] using World.cell?_spot hc0
      subst hspot
      have hlt := World.block_lt_of_cell? w _ hc0
      refine ⟨(List.range len).map B, .inl ⟨b, off, m, by rw [List.length_map, List.length_range], by intro e; have := congrArg List.length e; rw [List.length_map, List.length_range] at this; exact hlen this, ⟨hlt, fun k hk => ?_⟩⟩, by rw [List.length_map, List.length_range]; exact Nat.le_trans hl hm, _, _, _, rfl⟩
      rw [List.length_map, List.length_range] at hk
      have h1 := (hel k (by omega)).1
      rw [hB k (by omega)] at h1
      have ha : (⟨b, off, none⟩ : Addr).add k = ⟨b, off + k, none⟩ := addr_add b off k
      rw [ha] at h1
      rw [h1]
      simp [hk]

set_option maxRecDepth 100000 in
theorem open_frame {r : Reach} {b0 : Nat} {v : Value} {d : DataW H} {p : List MemPlace} (hv : Value.okWide Try.prog w r b0 26 v) (h : DataW.Trod enc Try.prog w base (fun _ => true) held 26 v d p) :
    ∃ (x y wd ht : Int) (sl : Value) (xs : List Nat), v = .agg #[.int .i64 x, .int .i64 y, .int .i64 wd, .int .i64 ht, sl] ∧ Sl w sl xs ∧ xs.length ≤ maxLen ∧ (∃ a n c, sl = .slice a n c) ∧
      (Lit.int .i64 x).wf = true ∧ (Lit.int .i64 y).wf = true ∧ (Lit.int .i64 wd).wf = true ∧ (Lit.int .i64 ht).wf = true := by
  obtain ⟨cs, rfl, hsz⟩ := okWide_struct Try.underlying26 hv
  obtain ⟨fuel, hf⟩ := h
  obtain ⟨y0, y1, n, _, hl, h0, h1⟩ := trod_struct2 Try.underlying26 hf
  have hc : Try.prog.cellsOf 26 = 5 := by kernel_rfl
  have hr : Try.prog.cellsOf 23 = 4 := by kernel_rfl
  have hs : Try.prog.cellsOf 24 = 1 := by kernel_rfl
  obtain ⟨l⟩ := cs
  match l, hsz.trans hc with
  | [c0, c1, c2, c3, c4], _ =>
    simp only [Value.cells, hr, hs, List.drop_zero, List.drop_succ_cons, List.take_succ_cons, List.take_zero] at h0 h1
    obtain ⟨a, b, c, d, he, wa, wb, wc, wd⟩ := trod_region h0
    obtain ⟨xs, hsl, hlen, hform⟩ := trod_f32s h1
    simp only [List.cons.injEq, and_true] at he
    obtain ⟨rfl, rfl, rfl, rfl⟩ := he
    exact ⟨a, b, c, d, c4, xs, rfl, hsl, hlen, hform, wa, wb, wc, wd⟩
end
end Go.Proofs.Ytlfcedecobebmaa
