/- A slice's length is at most its capacity: of a frame and of singles that came in. -/
import Derived.Test.YtccbhghpghijiaaOpn2
import Derived.OpenShut
namespace Go.Proofs.Ytccbhghpghijiaa
open Go.RowKit Go.ChangeShapes Go.WideShapes Go.Deep
theorem sl_max {w : World} {a : Option Addr} {n c : Nat} {xs : List Nat} (h : Sl w (.slice a n c) xs) (hl : xs.length ≤ maxLen) : n ≤ maxLen := by
  rcases h with ⟨b, o, k, h1, _, _⟩ | ⟨_, _, _, h1⟩
  · simp only [Value.slice.injEq] at h1; omega
  · simp only [Value.slice.injEq] at h1; omega
section
variable {H : Type} {enc : TypeId × Value → H} {w : World} {base : Nat} {held : Bool} {d : DataW H} {p : List MemPlace}

theorem f32s_cap0 {fuel n c : Nat} {a : Option Addr} {x : DataW H × List MemPlace} (h : DataW.trod enc Try.prog w base (fun _ => true) held fuel 24 [.slice a n c] = some x) : n ≤ c := by
  have hc : Try.prog.cellsOf 43 = 1 := by kernel_rfl
  rcases open_slice1 Try.underlying24 hc h with ⟨hv, _⟩ | ⟨a', len, cap, m, n', V, D, Pl, hv, _, hl, _⟩
  · simp only [List.cons.injEq, and_true, Value.slice.injEq] at hv
    omega
  · simp only [List.cons.injEq, and_true, Value.slice.injEq] at hv
    omega
theorem f32s_cap {n c : Nat} {a : Option Addr} (h : DataW.Trod enc Try.prog w base (fun _ => true) held 24 (.slice a n c) d p) : n ≤ c := by
  obtain ⟨fuel, hf⟩ := h
  exact f32s_cap0 hf
set_option maxRecDepth 100000 in
theorem open_f32s {r : Reach} {b0 : Nat} {v : Value} (hv : Value.okWide Try.prog w r b0 24 v) (h : DataW.Trod enc Try.prog w base (fun _ => true) held 24 v d p) :
    ∃ xs : List Nat, Sl w v xs := by
  obtain ⟨fuel, h0⟩ := h
  have hcs : v.cells.toList = [v] := by
    simp only [Value.okWide, Try.underlying24] at hv
    cases v <;> simp_all [Value.cells, Cell.okWide, Cell.ok]
  rw [hcs] at h0
  obtain ⟨xs, hsl, _, _⟩ := trod_f32s h0
  exact ⟨xs, hsl⟩
set_option maxRecDepth 100000 in
theorem frame_cap {x y wd ht : Int} {n c : Nat} {a : Option Addr} (h : DataW.Trod enc Try.prog w base (fun _ => true) held 26 (.agg #[.int .i64 x, .int .i64 y, .int .i64 wd, .int .i64 ht, .slice a n c]) d p) : n ≤ c := by
  obtain ⟨fuel, hf⟩ := h
  obtain ⟨y0, y1, m, _, hl, h0, h1⟩ := trod_struct2 Try.underlying26 hf
  have hr : Try.prog.cellsOf 23 = 4 := by kernel_rfl
  have hs : Try.prog.cellsOf 24 = 1 := by kernel_rfl
  simp only [Value.cells, hr, hs, List.drop_zero, List.drop_succ_cons, List.take_succ_cons, List.take_zero] at h0 h1
  exact f32s_cap0 h1
end
end Go.Proofs.Ytccbhghpghijiaa
