/- Lists of key frames that came in, opened. (printed by gen_opnt.py) -/
import Derived.Test.YtfkiljhjiogdlaaOpnW
import Derived.Test.YtfkiljhjiogdlaaKfB
namespace Go.Proofs.Ytfkiljhjiogdlaa
open Go.RowKit Go.ChangeShapes Go.WideShapes Go.Deep
section
variable {H : Type} {enc : TypeId × Value → H} {w : World} {base : Nat} {held : Bool} {r : Reach} {b0 : Nat} {v : Value} {d : DataW H} {p : List MemPlace}

set_option maxRecDepth 100000 in
theorem window_cells {fuel : Nat} {cs : List Value} {y : DataW H × List MemPlace} (hf : DataW.trod enc Try.prog w base (fun _ => true) held fuel 25 cs = some y) :
    ∃ (kind : Int) (X Y Wd H S : Nat) (pa : Option Addr) (c : Nat) (out : Bool) (ps : List (Int × Int)), cs = [.int .i64 kind, .float .f32 X, .float .f32 Y, .float .f32 Wd, .float .f32 H, .float .f32 S, .slice pa ps.length c, .bool out] ∧ SlP w (.slice pa ps.length c) ps := by
  obtain ⟨xs, n, _, _, hl, hxl, hel⟩ := DataW.trod_struct Try.underlying25 hf
  have hc : Try.prog.cellsOf 25 = 8 := by kernel_rfl
  have hs : Try.prog.cellsOf 23 = 1 := by kernel_rfl
  have hi : Try.prog.cellsOf 3 = 1 := by kernel_rfl
  have hfl : Try.prog.cellsOf 22 = 1 := by kernel_rfl
  have hbo : Try.prog.cellsOf 4 = 1 := by kernel_rfl
  have hxl2 : xs.length = 8 := hxl
  match cs, hl.trans hc with
  | [v0, v1, v2, v3, v4, v5, v6, v7], _ =>
    have some_of : ∀ i, i < 8 → ∃ y, xs[i]? = some y := by
      intro i hi4
      exact ⟨xs[i]'(by omega), List.getElem?_eq_getElem (by omega)⟩
    obtain ⟨⟨y0, q0⟩, e0⟩ := some_of 0 (by omega)
    have h0 := (hel 0 _ rfl).trans e0
    obtain ⟨⟨y1, q1⟩, e1⟩ := some_of 1 (by omega)
    have h1 := (hel 1 _ rfl).trans e1
    obtain ⟨⟨y2, q2⟩, e2⟩ := some_of 2 (by omega)
    have h2 := (hel 2 _ rfl).trans e2
    obtain ⟨⟨y3, q3⟩, e3⟩ := some_of 3 (by omega)
    have h3 := (hel 3 _ rfl).trans e3
    obtain ⟨⟨y4, q4⟩, e4⟩ := some_of 4 (by omega)
    have h4 := (hel 4 _ rfl).trans e4
    obtain ⟨⟨y5, q5⟩, e5⟩ := some_of 5 (by omega)
    have h5 := (hel 5 _ rfl).trans e5
    obtain ⟨⟨y6, q6⟩, e6⟩ := some_of 6 (by omega)
    have h6 := (hel 6 _ rfl).trans e6
    obtain ⟨⟨y7, q7⟩, e7⟩ := some_of 7 (by omega)
    have h7 := (hel 7 _ rfl).trans e7
    simp only [List.getElem_toArray, List.getElem_cons_zero, List.getElem_cons_succ, hs, hi, hfl, hbo, List.drop_zero, List.drop_succ_cons, List.take_succ_cons, List.take_zero] at h0 h1 h2 h3 h4 h5 h6 h7
    obtain ⟨z, hz, _, hzw⟩ := DataW.trod_int Try.underlying3 h0
    obtain ⟨x1, rfl⟩ := trod_f32 Try.underlying22 h1
    obtain ⟨x2, rfl⟩ := trod_f32 Try.underlying22 h2
    obtain ⟨x3, rfl⟩ := trod_f32 Try.underlying22 h3
    obtain ⟨x4, rfl⟩ := trod_f32 Try.underlying22 h4
    obtain ⟨x5, rfl⟩ := trod_f32 Try.underlying22 h5
    obtain ⟨es, hes⟩ := points_in h6
    obtain ⟨o7, ho, _⟩ := DataW.trod_bool Try.underlying4 h7
    simp only [List.cons.injEq, and_true] at hz ho
    subst hz ho
    obtain ⟨pa, c, hsl, hsr⟩ := hes
    subst hsl
    exact ⟨z, x1, x2, x3, x4, x5, pa, c, o7, es, rfl, ⟨pa, c, rfl, hsr⟩⟩

set_option maxRecDepth 100000 in
theorem keyframe_cells {fuel : Nat} {cs : List Value} {y : DataW H × List MemPlace} (hf : DataW.trod enc Try.prog w base (fun _ => true) held fuel 44 cs = some y) :
    ∃ e : Kf, cs = [Value.int .i64 e.fr, .int .i64 e.ease, .int .i64 e.kind, .float .f32 e.X, .float .f32 e.Y, .float .f32 e.Wd, .float .f32 e.H, .float .f32 e.S, e.pv, .bool e.out] ∧ SlP w e.pv e.ps := by
  obtain ⟨xs, n, _, _, hl, hxl, hel⟩ := DataW.trod_struct Try.underlying44 hf
  have hc : Try.prog.cellsOf 44 = 10 := by kernel_rfl
  have hw : Try.prog.cellsOf 25 = 8 := by kernel_rfl
  have hi : Try.prog.cellsOf 3 = 1 := by kernel_rfl
  have hxl2 : xs.length = 3 := hxl
  match cs, hl.trans hc with
  | [v0, v1, v2, v3, v4, v5, v6, v7, v8, v9], _ =>
    have some_of : ∀ i, i < 3 → ∃ y, xs[i]? = some y := by
      intro i hi4
      exact ⟨xs[i]'(by omega), List.getElem?_eq_getElem (by omega)⟩
    obtain ⟨⟨y0, q0⟩, e0⟩ := some_of 0 (by omega)
    have h0 := (hel 0 _ rfl).trans e0
    obtain ⟨⟨y1, q1⟩, e1⟩ := some_of 1 (by omega)
    have h1 := (hel 1 _ rfl).trans e1
    obtain ⟨⟨y2, q2⟩, e2⟩ := some_of 2 (by omega)
    have h2 := (hel 2 _ rfl).trans e2
    simp only [List.getElem_toArray, List.getElem_cons_zero, List.getElem_cons_succ, hw, hi, List.drop_zero, List.drop_succ_cons, List.take_succ_cons, List.take_zero] at h0 h1 h2
    obtain ⟨z0, hz0, _, _⟩ := DataW.trod_int Try.underlying3 h0
    obtain ⟨z1, hz1, _, _⟩ := DataW.trod_int Try.underlying3 h1
    obtain ⟨kind, X, Y, Wd, Hh, S, pa, c, out, ps, hcs, hsl⟩ := window_cells h2
    simp only [List.cons.injEq, and_true] at hz0 hz1 hcs
    obtain ⟨rfl, rfl, rfl, rfl, rfl, rfl, rfl, rfl⟩ := hcs
    subst hz0 hz1
    exact ⟨⟨z0, z1, kind, X, Y, Wd, Hh, S, pa, c, ps, out⟩, rfl, hsl⟩

set_option maxRecDepth 100000 in
theorem keyframes_in {fuel : Nat} {x : DataW H × List MemPlace} (h0 : DataW.trod enc Try.prog w base (fun _ => true) held fuel 38 [v] = some x) : ∃ (a : Option Addr) (n c : Nat) (es : List Kf), v = .slice a n c ∧ n ≤ c ∧ c ≤ maxLen ∧ SlK w v es := by
  have hc : Try.prog.cellsOf 44 = 10 := by kernel_rfl
  rcases open_slice Try.underlying38 h0 with ⟨hv, _⟩ | ⟨a, len, cap, m, n, D, Pl, hv, _, hl, hm, hmm, _, hel⟩
  · simp only [List.cons.injEq, and_true] at hv
    subst hv
    exact ⟨none, 0, 0, [], rfl, Nat.le_refl _, Nat.zero_le _, none, 0, rfl, Nat.zero_le _, .inl rfl, fun k hk => by simp at hk⟩
  · simp only [List.cons.injEq, and_true] at hv
    subst hv
    have hmc : m = cap := by simpa using hmm
    subst hmc
    rw [hc] at hel
    have hb : ∀ i, i < m → ∃ e : Kf, (∀ j, j < 10 → w.cell? (a.add (i * 10 + j)) = [Value.int .i64 e.fr, .int .i64 e.ease, .int .i64 e.kind, .float .f32 e.X, .float .f32 e.Y, .float .f32 e.Wd, .float .f32 e.H, .float .f32 e.S, e.pv, .bool e.out][j]?) ∧ SlP w e.pv e.ps := fun i hi => by
      obtain ⟨cs', h1, h2⟩ := hel i hi
      obtain ⟨e0, rfl, hsp⟩ := keyframe_cells h2
      obtain ⟨_, _, hcell⟩ := World.cells?_some h1
      refine ⟨e0, fun j hj => ?_, hsp⟩
      have e := hcell j hj
      rw [add_add] at e
      exact e
    by_cases hlen : len = 0
    · subst hlen
      exact ⟨some a, 0, m, [], rfl, Nat.zero_le _, hm, some a, m, rfl, Nat.zero_le _, .inl rfl, fun k hk => by simp at hk⟩
    · obtain ⟨B, hB⟩ := choose_lt (α := Kf) (p := fun i (e : Kf) => (∀ j, j < 10 → w.cell? (a.add (i * 10 + j)) = [Value.int .i64 e.fr, .int .i64 e.ease, .int .i64 e.kind, .float .f32 e.X, .float .f32 e.Y, .float .f32 e.Wd, .float .f32 e.H, .float .f32 e.S, e.pv, .bool e.out][j]?) ∧ SlP w e.pv e.ps) hb
      obtain ⟨b, off, spot⟩ := a
      have hc0 : w.cell? ((⟨b, off, spot⟩ : Addr).add (0 * 10 + 0)) = some (.int .i64 (B 0).fr) := (hB 0 (by omega)).1 0 (by omega)
      have hspot : spot = none := by simpa [Addr.add] using World.cell?_spot hc0
      subst hspot
      have hlt := World.block_lt_of_cell? w _ hc0
      have eg : ∀ k, k < len → ((List.range len).map B).getD k default = B k := fun k hk => by simp [List.getD, hk]
      refine ⟨some ⟨b, off, none⟩, len, m, (List.range len).map B, rfl, hl, hm, some ⟨b, off, none⟩, m, by simp, by simpa using Nat.le_trans hl hm, .inr ⟨b, off, rfl, hlt, fun k hk => ?_⟩, fun k hk => ?_⟩
      · have hk : k < len := by simpa using hk
        have hq : ∀ j, j < 10 → w.cell? ⟨b, off + k * 10 + j, none⟩ = [Value.int .i64 (B k).fr, .int .i64 (B k).ease, .int .i64 (B k).kind, .float .f32 (B k).X, .float .f32 (B k).Y, .float .f32 (B k).Wd, .float .f32 (B k).H, .float .f32 (B k).S, (B k).pv, .bool (B k).out][j]? := fun j hj => by
          have h1 := (hB k (by omega)).1 j hj
          rw [addr_add] at h1
          rw [Nat.add_assoc]
          exact h1
        rw [eg k hk]
        exact ⟨hq 0 (by omega), hq 1 (by omega), hq 2 (by omega), hq 3 (by omega), hq 4 (by omega), hq 5 (by omega), hq 6 (by omega), hq 7 (by omega), hq 8 (by omega), hq 9 (by omega)⟩
      · have hk : k < len := by simpa using hk
        rw [eg k hk]
        exact (hB k (by omega)).2

set_option maxRecDepth 100000 in
theorem open_keyframes (hv : Value.okWide Try.prog w r b0 38 v) (h : DataW.Trod enc Try.prog w base (fun _ => true) held 38 v d p) :
    ∃ (a : Option Addr) (n c : Nat) (es : List Kf), v = .slice a n c ∧ n ≤ c ∧ c ≤ maxLen ∧ SlK w v es := by
  obtain ⟨fuel, h0⟩ := h
  have hcs : v.cells.toList = [v] := by
    simp only [Value.okWide, Try.underlying38] at hv
    cases v <;> simp_all [Value.cells, Cell.okWide, Cell.ok]
  rw [hcs] at h0
  exact keyframes_in h0
end
end Go.Proofs.Ytfkiljhjiogdlaa
