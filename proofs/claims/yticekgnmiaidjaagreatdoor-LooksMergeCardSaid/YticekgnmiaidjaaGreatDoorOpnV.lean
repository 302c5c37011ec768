/- Looks that came in, opened. -/
import Derived.Test.YticekgnmiaidjaaGreatDoorOpn2
import Derived.Test.YticekgnmiaidjaaGreatDoorGdw
import Derived.OpenShut
import Derived.Test.YticekgnmiaidjaaGreatDoorGlS
import Derived.Test.YticekgnmiaidjaaGreatDoorLkE
namespace Go.Proofs.YticekgnmiaidjaaGreatDoor

section
section
open Go.RowKit Go.ChangeShapes Go.WideShapes Go.Deep

/-- The cells are n singles. -/
def Fs (n : Nat) (cs : List Value) : Prop := ∃ xs : List Nat, xs.length = n ∧ (∀ x ∈ xs, x < 4294967296) ∧ cs = xs.map (Value.float .f32)
theorem Fs.app {n m : Nat} {a b : List Value} (ha : Fs n a) (hb : Fs m b) : Fs (n + m) (a ++ b) := by
  obtain ⟨xs, h1, h2, rfl⟩ := ha
  obtain ⟨ys, h3, h4, rfl⟩ := hb
  refine ⟨xs ++ ys, by rw [List.length_append]; omega, fun x hx => ?_, (List.map_append ..).symm⟩
  rcases List.mem_append.1 hx with h | h
  · exact h2 x h
  · exact h4 x h
theorem Fs.get {n : Nat} {cs : List Value} {xs : List Nat} (h1 : xs.length = n) (h : cs = xs.map (Value.float .f32)) (i : Nat) (hi : i < n) : cs[i]? = some (.float .f32 (xs.getD i 0)) := by
  subst h
  rw [List.getElem?_map, List.getElem?_eq_getElem (by omega), List.getD_eq_getElem?_getD, List.getElem?_eq_getElem (by omega)]
  rfl
theorem drop_one {cs : List Value} {i : Nat} (h : i < cs.length) : (cs.drop i).take 1 = [cs[i]] := by
  rw [List.drop_eq_getElem_cons h]
  rfl
theorem list_part {L M : List Value} {o n : Nat} (h : (L.drop o).take n = M) (i : Nat) (hi : i < n) : L[o + i]? = M[i]? := by
  rw [← h, List.getElem?_take_of_lt hi, List.getElem?_drop]

section
variable {H : Type} {enc : TypeId × Value → H} {w : World} {base : Nat} {held : Bool} {r : Reach} {b0 : Nat} {v : Value} {d : DataW H} {p : List MemPlace}

theorem arr_fs {P : Program} {t e : TypeId} {n fuel : Nat} {cs : List Value} {y : DataW H × List MemPlace} (ht : P.underlying t = some (.array n e)) (hc : P.cellsOf t = n) (he : P.cellsOf e = 1) (hu : P.underlying e = some (.float .f32))
    (hf : DataW.trod enc P w base (fun _ => true) held fuel t cs = some y) : Fs n cs := by
  obtain ⟨xs, m, _, _, hl, hxl, hel⟩ := DataW.trod_array ht hf
  rw [hc] at hl
  have hb : ∀ i, i < n → ∃ b, b < 4294967296 ∧ cs[i]? = some (.float .f32 b) := fun i hi => by
    have h0 := hel i hi
    rw [he, Nat.mul_one, drop_one (by omega), List.getElem?_eq_getElem (by omega)] at h0
    obtain ⟨b, hb⟩ := trod_f32 hu h0
    rw [hb] at h0
    exact ⟨b, trod_f32w hu h0, by rw [List.getElem?_eq_getElem (by omega), hb]⟩
  obtain ⟨B, hB⟩ := choose_lt (α := Nat) (p := fun i b => b < 4294967296 ∧ cs[i]? = some (.float .f32 b)) hb
  refine ⟨(List.range n).map B, by simp, fun x hx => ?_, List.ext_getElem? fun i => ?_⟩
  · obtain ⟨i, hi, rfl⟩ := List.mem_map.1 hx
    exact (hB i (List.mem_range.1 hi)).1
  · by_cases hi : i < n
    · rw [(hB i hi).2]; simp [hi]
    · rw [List.getElem?_eq_none (by omega)]; simp [hi]

theorem arr_is {P : Program} {t e : TypeId} {n fuel : Nat} {cs : List Value} {y : DataW H × List MemPlace} (ht : P.underlying t = some (.array n e)) (hc : P.cellsOf t = n) (he : P.cellsOf e = 1) (hu : P.underlying e = some (.int .i64))
    (hf : DataW.trod enc P w base (fun _ => true) held fuel t cs = some y) : ∃ zs : List Int, zs.length = n ∧ cs = zs.map (Value.int .i64) := by
  obtain ⟨xs, m, _, _, hl, hxl, hel⟩ := DataW.trod_array ht hf
  rw [hc] at hl
  have hb : ∀ i, i < n → ∃ b, cs[i]? = some (.int .i64 b) := fun i hi => by
    have h0 := hel i hi
    have h1 : xs[i]? = some (xs[i]'(by omega)) := List.getElem?_eq_getElem (by omega)
    rw [he, Nat.mul_one, drop_one (by omega), h1] at h0
    obtain ⟨b, hb, _⟩ := DataW.trod_int hu h0
    simp only [List.cons.injEq, and_true] at hb
    exact ⟨b, by rw [List.getElem?_eq_getElem (by omega), hb]⟩
  obtain ⟨B, hB⟩ := choose_lt (α := Int) (p := fun i b => cs[i]? = some (.int .i64 b)) hb
  refine ⟨(List.range n).map B, by simp, List.ext_getElem? fun i => ?_⟩
  by_cases hi : i < n
  · rw [hB i hi]; simp [hi]
  · rw [List.getElem?_eq_none (by omega)]; simp [hi]

theorem struct_get {P : Program} {t : TypeId} {fs : Array Field} {fuel : Nat} {cs : List Value} {y : DataW H × List MemPlace} (ht : P.underlying t = some (.struct fs)) (hf : DataW.trod enc P w base (fun _ => true) held fuel t cs = some y) :
    cs.length = P.cellsOf t ∧ ∃ n, ∀ (i : Nat) (f : Field), fs[i]? = some f → ∃ z, DataW.trod enc P w base (fun _ => true) held n f.type ((cs.drop f.offset).take (P.cellsOf f.type)) = some z := by
  obtain ⟨xs, n, _, _, hl, hxl, hel⟩ := DataW.trod_struct ht hf
  refine ⟨hl, n, fun i f h => ?_⟩
  have hi : i < xs.length := by
    rw [hxl]
    exact (Array.getElem?_eq_some_iff.1 h).1
  exact ⟨xs[i], (hel i f h).trans (List.getElem?_eq_getElem hi)⟩

theorem arr3 {fuel : Nat} {cs : List Value} {y : DataW H × List MemPlace} (hf : DataW.trod enc Tryz.prog w base (fun _ => true) held fuel 32 cs = some y) : Fs 3 cs :=
  arr_fs Tryz.underlying32 (by kernel_rfl) (by kernel_rfl) Tryz.underlying23 hf

set_option maxRecDepth 100000 in
theorem wheels_fs {fuel : Nat} {cs : List Value} {y : DataW H × List MemPlace} (hf : DataW.trod enc Tryz.prog w base (fun _ => true) held fuel 34 cs = some y) : Fs 9 cs := by
  obtain ⟨hl, n, h⟩ := struct_get Tryz.underlying34 hf
  have hc : Tryz.prog.cellsOf 34 = 9 := by kernel_rfl
  have ha : Tryz.prog.cellsOf 32 = 3 := by kernel_rfl
  obtain ⟨z0, h0⟩ := h 0 _ rfl
  obtain ⟨z1, h1⟩ := h 1 _ rfl
  obtain ⟨z2, h2⟩ := h 2 _ rfl
  simp only [List.getElem_toArray, List.getElem_cons_zero, List.getElem_cons_succ, ha] at h0 h1 h2
  have := (arr3 h0).app ((arr3 h1).app (arr3 h2))
  rw [hc] at hl
  match cs, hl with
  | [v0, v1, v2, v3, v4, v5, v6, v7, v8], _ => exact this

set_option maxRecDepth 100000 in
theorem cdl_fs {fuel : Nat} {cs : List Value} {y : DataW H × List MemPlace} (hf : DataW.trod enc Tryz.prog w base (fun _ => true) held fuel 36 cs = some y) : Fs 10 cs := by
  obtain ⟨hl, n, h⟩ := struct_get Tryz.underlying36 hf
  have hc : Tryz.prog.cellsOf 36 = 10 := by kernel_rfl
  have ha : Tryz.prog.cellsOf 32 = 3 := by kernel_rfl
  have hs : Tryz.prog.cellsOf 23 = 1 := by kernel_rfl
  obtain ⟨z0, h0⟩ := h 0 _ rfl
  obtain ⟨z1, h1⟩ := h 1 _ rfl
  obtain ⟨z2, h2⟩ := h 2 _ rfl
  obtain ⟨z3, h3⟩ := h 3 _ rfl
  simp only [List.getElem_toArray, List.getElem_cons_zero, List.getElem_cons_succ, ha, hs] at h0 h1 h2 h3
  rw [hc] at hl
  match cs, hl with
  | [v0, v1, v2, v3, v4, v5, v6, v7, v8, v9], _ =>
    have h4 : DataW.trod enc Tryz.prog w base (fun _ => true) held n 23 [v9] = some z3 := h3
    obtain ⟨b, rfl⟩ := trod_f32 Tryz.underlying23 h4
    have hb := trod_f32w Tryz.underlying23 h4
    have e1 : Fs 1 [Value.float .f32 b] := ⟨[b], rfl, fun x hx => by rw [List.mem_singleton.1 hx]; exact hb, rfl⟩
    exact (arr3 h0).app ((arr3 h1).app ((arr3 h2).app e1))

set_option maxRecDepth 100000 in
theorem mixer_fs {fuel : Nat} {cs : List Value} {y : DataW H × List MemPlace} (hf : DataW.trod enc Tryz.prog w base (fun _ => true) held fuel 43 cs = some y) : Fs 12 cs := by
  obtain ⟨hl, n, h⟩ := struct_get Tryz.underlying43 hf
  have hc : Tryz.prog.cellsOf 43 = 12 := by kernel_rfl
  have ha : Tryz.prog.cellsOf 41 = 12 := by kernel_rfl
  obtain ⟨z0, h0⟩ := h 0 _ rfl
  simp only [List.getElem_toArray, List.getElem_cons_zero, ha, List.drop_zero] at h0
  rw [hc] at hl
  rw [List.take_of_length_le (by omega)] at h0
  exact arr_fs Tryz.underlying41 ha (by kernel_rfl) Tryz.underlying23 h0

/-- The words of a curve. -/
def CvW (c : Cv) : Prop := (∀ x ∈ c.xs, x < 4294967296) ∧ ∀ y ∈ c.ys, y < 4294967296
def CvIs (w : World) (c : Cv) (cs : List Value) : Prop := CvW c ∧ ∃ vx vy, cs = [.int .i64 c.kind, vx, vy] ∧ Sl w vx c.xs ∧ Sl w vy c.ys

set_option maxRecDepth 100000 in
theorem curve_is {fuel : Nat} {cs : List Value} {y : DataW H × List MemPlace} (hf : DataW.trod enc Tryz.prog w base (fun _ => true) held fuel 39 cs = some y) : ∃ c : Cv, CvIs w c cs := by
  obtain ⟨hl, n, h⟩ := struct_get Tryz.underlying39 hf
  have hc : Tryz.prog.cellsOf 39 = 3 := by kernel_rfl
  have hi : Tryz.prog.cellsOf 3 = 1 := by kernel_rfl
  have hs : Tryz.prog.cellsOf 37 = 1 := by kernel_rfl
  obtain ⟨⟨z0, q0⟩, h0⟩ := h 0 _ rfl
  obtain ⟨⟨z1, q1⟩, h1⟩ := h 1 _ rfl
  obtain ⟨⟨z2, q2⟩, h2⟩ := h 2 _ rfl
  simp only [List.getElem_toArray, List.getElem_cons_zero, List.getElem_cons_succ, hi, hs] at h0 h1 h2
  rw [hc] at hl
  match cs, hl with
  | [v0, v1, v2], _ =>
    simp only [List.drop_zero, List.drop_succ_cons, List.take_succ_cons, List.take_zero] at h0 h1 h2
    obtain ⟨k, hk, _⟩ := DataW.trod_int Tryz.underlying3 h0
    obtain ⟨xs, s1, _⟩ := trod_f32s h1
    obtain ⟨ys, s2, _⟩ := trod_f32s h2
    simp only [List.cons.injEq, and_true] at hk
    subst hk
    exact ⟨⟨k, xs, ys⟩, ⟨f32s_bits h1 s1, f32s_bits h2 s2⟩, v1, v2, rfl, s1, s2⟩

set_option maxRecDepth 100000 in
theorem curves_is {fuel : Nat} {cs : List Value} {y : DataW H × List MemPlace} (hf : DataW.trod enc Tryz.prog w base (fun _ => true) held fuel 40 cs = some y) :
    ∃ L : List Cv, L.length = 4 ∧ ∀ (i : Nat) (c : Cv), L[i]? = some c → CvIs w c ((cs.drop (i * 3)).take 3) := by
  obtain ⟨xs, m, _, _, hl, hxl, hel⟩ := DataW.trod_array Tryz.underlying40 hf
  have he : Tryz.prog.cellsOf 39 = 3 := by kernel_rfl
  have hb : ∀ i, i < 4 → ∃ c : Cv, CvIs w c ((cs.drop (i * 3)).take 3) := fun i hi => by
    have h0 := hel i hi
    have h1 : xs[i]? = some (xs[i]'(by omega)) := List.getElem?_eq_getElem (by omega)
    rw [he, h1] at h0
    exact curve_is h0
  haveI : Inhabited Cv := ⟨⟨0, [], []⟩⟩
  obtain ⟨B, hB⟩ := choose_lt (α := Cv) (p := fun i c => CvIs w c ((cs.drop (i * 3)).take 3)) hb
  refine ⟨(List.range 4).map B, by simp, fun i c hc => ?_⟩
  have hi : i < 4 := by
    have := (List.getElem?_eq_some_iff.1 hc).1
    simpa using this
  have : B i = c := by simpa [hi] using hc
  rw [← this]
  exact hB i hi

set_option maxRecDepth 100000 in
theorem grade_in {C : Array Value} (hsz : C.size = 49) {fuel : Nat} {y : DataW H × List MemPlace} (hf : DataW.trod enc Tryz.prog w base (fun _ => true) held fuel 46 C.toList = some y) :
    ∃ g : Gd, GdAt w C g ∧ GdW g := by
  obtain ⟨_, n, h⟩ := struct_get Tryz.underlying46 hf
  have ci : Tryz.prog.cellsOf 3 = 1 := by kernel_rfl
  have cs : Tryz.prog.cellsOf 23 = 1 := by kernel_rfl
  have cw : Tryz.prog.cellsOf 34 = 9 := by kernel_rfl
  have cl : Tryz.prog.cellsOf 36 = 10 := by kernel_rfl
  have cc : Tryz.prog.cellsOf 40 = 12 := by kernel_rfl
  have cm : Tryz.prog.cellsOf 43 = 12 := by kernel_rfl
  have cp : Tryz.prog.cellsOf 44 = 3 := by kernel_rfl
  obtain ⟨⟨z0, q0⟩, h0⟩ := h 0 _ rfl
  obtain ⟨⟨z1, q1⟩, h1⟩ := h 1 _ rfl
  obtain ⟨⟨z2, q2⟩, h2⟩ := h 2 _ rfl
  obtain ⟨⟨z3, q3⟩, h3⟩ := h 3 _ rfl
  obtain ⟨⟨z4, q4⟩, h4⟩ := h 4 _ rfl
  obtain ⟨⟨z5, q5⟩, h5⟩ := h 5 _ rfl
  obtain ⟨⟨z6, q6⟩, h6⟩ := h 6 _ rfl
  obtain ⟨⟨z7, q7⟩, h7⟩ := h 7 _ rfl
  simp only [List.getElem_toArray, List.getElem_cons_zero, List.getElem_cons_succ, ci, cs, cw, cl, cc, cm, cp] at h0 h1 h2 h3 h4 h5 h6 h7
  have hL : C.toList.length = 49 := by simpa using hsz
  obtain ⟨k, hk, _⟩ := DataW.trod_int Tryz.underlying3 h0
  obtain ⟨xw, lw, bw, ew⟩ := wheels_fs h1
  obtain ⟨xl, ll, bl, el⟩ := cdl_fs h2
  obtain ⟨L, lL, hLc⟩ := curves_is h3
  obtain ⟨xm, lm, bm, em⟩ := mixer_fs h4
  rw [drop_one (by omega)] at h5 h6
  obtain ⟨pv, hpv⟩ := trod_f32 Tryz.underlying23 h5
  obtain ⟨am, ham⟩ := trod_f32 Tryz.underlying23 h6
  rw [hpv] at h5
  rw [ham] at h6
  obtain ⟨zs, lz, ez⟩ := arr_is Tryz.underlying44 cp ci Tryz.underlying3 h7
  have g : ∀ i, C[i]? = C.toList[i]? := fun i => (Array.getElem?_toList ..).symm
  have f0 : C[0]? = some (.int .i64 k) := by rw [g]; exact list_part hk 0 (by omega)
  have f1 : ∀ i, i < 9 → C[1 + i]? = some (.float .f32 (xw.getD i 0)) := fun i hi => by rw [g, list_part rfl i hi]; exact Fs.get lw ew i hi
  have f2 : ∀ i, i < 10 → C[10 + i]? = some (.float .f32 (xl.getD i 0)) := fun i hi => by rw [g, list_part rfl i hi]; exact Fs.get ll el i hi
  have f3 : ∀ (i : Nat) (c : Cv), L[i]? = some c → C[20 + 3 * i]? = some (.int .i64 c.kind) ∧ (∃ vx, C[21 + 3 * i]? = some vx ∧ Sl w vx c.xs) ∧ ∃ vy, C[22 + 3 * i]? = some vy ∧ Sl w vy c.ys := fun i c hc => by
    obtain ⟨_, vx, vy, e, sx, sy⟩ := hLc i c hc
    have hi : i < 4 := by rw [← lL]; exact (List.getElem?_eq_some_iff.1 hc).1
    have q : ∀ j, j < 3 → C[20 + 3 * i + j]? = [Value.int .i64 c.kind, vx, vy][j]? := fun j hj => by
      rw [g, ← list_part e j hj, ← list_part (o := 20) (n := 12) rfl (i * 3 + j) (by omega)]
      congr 1; omega
    refine ⟨q 0 (by omega), ⟨vx, ?_, sx⟩, vy, ?_, sy⟩
    · have := q 1 (by omega); rw [show 21 + 3 * i = 20 + 3 * i + 1 by omega]; exact this
    · have := q 2 (by omega); rw [show 22 + 3 * i = 20 + 3 * i + 2 by omega]; exact this
  have f4 : ∀ i, i < 12 → C[32 + i]? = some (.float .f32 (xm.getD i 0)) := fun i hi => by rw [g, list_part rfl i hi]; exact Fs.get lm em i hi
  have f5 : C[44]? = some (.float .f32 pv) := by rw [g, List.getElem?_eq_getElem (by omega)]; exact congrArg some hpv
  have f6 : C[45]? = some (.float .f32 am) := by rw [g, List.getElem?_eq_getElem (by omega)]; exact congrArg some ham
  have f7 : ∀ i, i < 3 → C[46 + i]? = some (.int .i64 (zs.getD i 0)) := fun i hi => by
    rw [g, list_part ez i hi, List.getElem?_map, List.getElem?_eq_getElem (by omega), List.getD_eq_getElem?_getD, List.getElem?_eq_getElem (by omega)]
    rfl
  refine ⟨⟨k, xw, xl, L, xm, pv, am, zs⟩, ⟨hsz, ?_, f0, ⟨lw, f1⟩, ⟨ll, f2⟩, ⟨lL, f3⟩, ⟨lm, f4⟩, f5, f6, lz, f7⟩, bw, bl, bm, trod_f32w Tryz.underlying23 h5, trod_f32w Tryz.underlying23 h6, fun c hc => ?_⟩
  · rw [Array.all_eq_true]
    have key : ∀ i v, C[i]? = some v → i < 49 → v.oneCell' = true := fun i v hv hi => by
      by_cases c0 : i = 0
      · subst c0; rw [f0] at hv; rw [← Option.some.inj hv]; rfl
      by_cases c1 : i < 10
      · have := f1 (i - 1) (by omega); rw [show 1 + (i - 1) = i by omega, hv] at this; rw [Option.some.inj this]; rfl
      by_cases c2 : i < 20
      · have := f2 (i - 10) (by omega); rw [show 10 + (i - 10) = i by omega, hv] at this; rw [Option.some.inj this]; rfl
      by_cases c3 : i < 32
      · obtain ⟨q0, ⟨vx, q1, sx⟩, vy, q2, sy⟩ := f3 ((i - 20) / 3) _ (List.getElem?_eq_getElem (by omega))
        have hx : vx.oneCell' = true := by rcases sx with ⟨b, o, c, rfl, _⟩ | ⟨_, a, c, rfl⟩ <;> rfl
        have hy : vy.oneCell' = true := by rcases sy with ⟨b, o, c, rfl, _⟩ | ⟨_, a, c, rfl⟩ <;> rfl
        have h3 : (i - 20) % 3 = 0 ∨ (i - 20) % 3 = 1 ∨ (i - 20) % 3 = 2 := by omega
        rcases h3 with h3 | h3 | h3
        · rw [show 20 + 3 * ((i - 20) / 3) = i by omega, hv] at q0; rw [Option.some.inj q0]; rfl
        · rw [show 21 + 3 * ((i - 20) / 3) = i by omega, hv] at q1; rw [Option.some.inj q1]; exact hx
        · rw [show 22 + 3 * ((i - 20) / 3) = i by omega, hv] at q2; rw [Option.some.inj q2]; exact hy
      by_cases c4 : i < 44
      · have := f4 (i - 32) (by omega); rw [show 32 + (i - 32) = i by omega, hv] at this; rw [Option.some.inj this]; rfl
      by_cases c5 : i = 44
      · subst c5; rw [f5] at hv; rw [← Option.some.inj hv]; rfl
      by_cases c6 : i = 45
      · subst c6; rw [f6] at hv; rw [← Option.some.inj hv]; rfl
      have := f7 (i - 46) (by omega); rw [show 46 + (i - 46) = i by omega, hv] at this; rw [Option.some.inj this]; rfl
    intro i hi
    exact key i _ (Array.getElem?_eq_getElem hi) (by omega)
  · obtain ⟨i, hi, e⟩ := List.mem_iff_getElem.1 hc
    have := (hLc i c (by rw [List.getElem?_eq_getElem hi]; exact congrArg some e)).1
    exact this

end
end

section
open Go.RowKit Go.ChangeShapes Go.WideShapes Go.Deep
section
variable {H : Type} {enc : TypeId × Value → H} {w : World} {base : Nat} {held : Bool} {r : Reach} {b0 : Nat} {v : Value} {d : DataW H} {p : List MemPlace}

set_option maxRecDepth 100000 in
theorem grades_in {fuel : Nat} {x : DataW H × List MemPlace} (h0 : DataW.trod enc Tryz.prog w base (fun _ => true) held fuel 22 [v] = some x) : ∃ gs : List Gd, SlG w v gs ∧ ∀ g ∈ gs, GdW g := by
  have hc : Tryz.prog.cellsOf 46 = 49 := by kernel_rfl
  rcases open_slice Tryz.underlying22 h0 with ⟨hv, _⟩ | ⟨a, len, cap, m, n, D, Pl, hv, _, hl, hm, hmm, _, hel⟩
  · simp only [List.cons.injEq, and_true] at hv
    subst hv
    exact ⟨[], ⟨none, 0, rfl, Nat.zero_le _, Nat.zero_le _, .inl rfl⟩, fun g hg => by cases hg⟩
  · simp only [List.cons.injEq, and_true] at hv
    subst hv
    have hmc : m = cap := by simpa using hmm
    subst hmc
    rw [hc] at hel
    have hb : ∀ i, i < m → ∃ g : Gd, GdW g ∧ ∃ C : Array Value, GdAt w C g ∧ ∀ j, j < 49 → w.cell? (a.add (i * 49 + j)) = C[j]? := fun i hi => by
      obtain ⟨cs', h1, h2⟩ := hel i hi
      obtain ⟨_, _, hcell⟩ := World.cells?_some h1
      have hsz : cs'.toArray.size = 49 := by
        have := (struct_get Tryz.underlying46 h2).1
        rw [hc] at this
        simpa using this
      obtain ⟨g, hg, hw⟩ := grade_in (C := cs'.toArray) hsz h2
      refine ⟨g, hw, cs'.toArray, hg, fun j hj => ?_⟩
      have e := hcell j hj
      rw [add_add] at e
      rw [e]
      simp
    by_cases hlen : len = 0
    · subst hlen
      exact ⟨[], ⟨some a, m, rfl, Nat.zero_le _, hm, .inl rfl⟩, fun g hg => by cases hg⟩
    · haveI : Inhabited Gd := ⟨⟨0, [], [], [], [], 0, 0, []⟩⟩
      obtain ⟨B, hB⟩ := choose_lt (α := Gd) (p := fun i (g : Gd) => GdW g ∧ ∃ C : Array Value, GdAt w C g ∧ ∀ j, j < 49 → w.cell? (a.add (i * 49 + j)) = C[j]?) hb
      obtain ⟨b, off, spot⟩ := a
      obtain ⟨_, C0, hG0, hc0'⟩ := hB 0 (by omega)
      have hc0 := hc0' 0 (by omega)
      rw [hG0.kind] at hc0
      have hspot : spot = none := by simpa [Addr.add] using World.cell?_spot hc0
      subst hspot
      have hlt := World.block_lt_of_cell? w _ hc0
      refine ⟨(List.range len).map B, ⟨some ⟨b, off, none⟩, m, by simp, by simpa using hl, hm, .inr ⟨b, off, rfl, hlt, fun k g hk => ?_⟩⟩, fun g hg => ?_⟩
      · have hkl : k < len := by
          have := (List.getElem?_eq_some_iff.1 hk).1
          simpa using this
        have e : B k = g := by simpa [hkl] using hk
        obtain ⟨_, C, hG, hcl⟩ := hB k (by omega)
        rw [e] at hG
        refine ⟨C, hG, fun j v hj => ?_⟩
        have hj49 : j < 49 := by rw [← hG.size]; exact (Array.getElem?_eq_some_iff.1 hj).1
        have h1 := hcl j hj49
        rw [addr_add, hj] at h1
        rw [Nat.add_assoc]
        exact h1
      · obtain ⟨k, hk, rfl⟩ := List.mem_map.1 hg
        exact (hB k (by have := List.mem_range.1 hk; omega)).1

end
end
end

section
open Go.RowKit Go.ChangeShapes Go.WideShapes Go.Deep
section
variable {H : Type} {enc : TypeId × Value → H} {w : World} {base : Nat} {held : Bool} {r : Reach} {b0 : Nat} {v : Value} {d : DataW H} {p : List MemPlace}

set_option maxRecDepth 100000 in
theorem row_in {fuel : Nat} {cs : List Value} {y : DataW H × List MemPlace} (hf : DataW.trod enc Tryz.prog w base (fun _ => true) held fuel 89 cs = some y) : ∃ (s : ByteArray) (gv : Value) (gs : List Gd), cs = [.string s, gv] ∧ SlG w gv gs ∧ ∀ g ∈ gs, GdW g := by
  obtain ⟨hl, n, h⟩ := struct_get Tryz.underlying89 hf
  have hc : Tryz.prog.cellsOf 89 = 2 := by kernel_rfl
  have hs : Tryz.prog.cellsOf 9 = 1 := by kernel_rfl
  have hg : Tryz.prog.cellsOf 22 = 1 := by kernel_rfl
  obtain ⟨z0, h0⟩ := h 0 _ rfl
  obtain ⟨z1, h1⟩ := h 1 _ rfl
  simp only [List.getElem_toArray, List.getElem_cons_zero, List.getElem_cons_succ, hs, hg] at h0 h1
  rw [hc] at hl
  match cs, hl with
  | [v0, v1], _ =>
    have h0' : DataW.trod enc Tryz.prog w base (fun _ => true) held n 9 [v0] = some z0 := h0
    have h1' : DataW.trod enc Tryz.prog w base (fun _ => true) held n 22 [v1] = some z1 := h1
    obtain ⟨s, g0, _, _⟩ := DataW.trod_string Tryz.underlying9 h0'
    simp only [List.cons.injEq, and_true] at g0
    subst g0
    obtain ⟨gs, a, b⟩ := grades_in h1'
    exact ⟨s, v1, gs, rfl, a, b⟩

set_option maxRecDepth 100000 in
theorem rows_in {fuel : Nat} {x : DataW H × List MemPlace} (h0 : DataW.trod enc Tryz.prog w base (fun _ => true) held fuel 55 [v] = some x) : ∃ rows : List Rw, SlL w v rows ∧ ∀ r ∈ rows, ∀ g ∈ r.2, GdW g := by
  have hc : Tryz.prog.cellsOf 89 = 2 := by kernel_rfl
  rcases open_slice Tryz.underlying55 h0 with ⟨hv, _⟩ | ⟨a, len, cap, m, n, D, Pl, hv, _, hl, hm, hmm, _, hel⟩
  · simp only [List.cons.injEq, and_true] at hv
    subst hv
    exact ⟨[], ⟨none, 0, rfl, Nat.zero_le _, Nat.zero_le _, .inl rfl⟩, fun g hg => by cases hg⟩
  · simp only [List.cons.injEq, and_true] at hv
    subst hv
    have hmc : m = cap := by simpa using hmm
    subst hmc
    rw [hc] at hel
    have hb : ∀ i, i < m → ∃ r : Rw, (∀ g ∈ r.2, GdW g) ∧ ∃ gv, w.cell? (a.add (i * 2 + 0)) = some (.string r.1) ∧ w.cell? (a.add (i * 2 + 1)) = some gv ∧ SlG w gv r.2 := fun i hi => by
      obtain ⟨cs', h1, h2⟩ := hel i hi
      obtain ⟨_, _, hcell⟩ := World.cells?_some h1
      obtain ⟨s, gv, gs, rfl, h3, h4⟩ := row_in h2
      have e0 := hcell 0 (by omega)
      have e1 := hcell 1 (by omega)
      rw [add_add] at e0 e1
      exact ⟨(s, gs), h4, gv, e0, e1, h3⟩
    by_cases hlen : len = 0
    · subst hlen
      exact ⟨[], ⟨some a, m, rfl, Nat.zero_le _, hm, .inl rfl⟩, fun g hg => by cases hg⟩
    · haveI : Inhabited Rw := ⟨(⟨#[]⟩, [])⟩
      obtain ⟨B, hB⟩ := choose_lt (α := Rw) (p := fun i (r : Rw) => (∀ g ∈ r.2, GdW g) ∧ ∃ gv, w.cell? (a.add (i * 2 + 0)) = some (.string r.1) ∧ w.cell? (a.add (i * 2 + 1)) = some gv ∧ SlG w gv r.2) hb
      obtain ⟨b, off, spot⟩ := a
      obtain ⟨_, _, hc0, _⟩ := hB 0 (by omega)
      have hspot : spot = none := by simpa [Addr.add] using World.cell?_spot hc0
      subst hspot
      have hlt := World.block_lt_of_cell? w _ hc0
      refine ⟨(List.range len).map B, ⟨some ⟨b, off, none⟩, m, by simp, by simpa using hl, hm, .inr ⟨b, off, rfl, hlt, fun k r hk => ?_⟩⟩, fun r hr => ?_⟩
      · have hkl : k < len := by
          have := (List.getElem?_eq_some_iff.1 hk).1
          simpa using this
        have e : B k = r := by simpa [hkl] using hk
        obtain ⟨_, gv, h1, h2, h3⟩ := hB k (by omega)
        rw [e] at h1 h3
        rw [addr_add, Nat.add_zero] at h1
        rw [addr_add] at h2
        exact ⟨h1, gv, by rw [Nat.add_assoc]; exact h2, h3⟩
      · obtain ⟨k, hk, rfl⟩ := List.mem_map.1 hr
        exact (hB k (by have := List.mem_range.1 hk; omega)).1

set_option maxRecDepth 100000 in
theorem open_look (hv : Value.okWide Tryz.prog w r b0 57 v) (h : DataW.Trod enc Tryz.prog w base (fun _ => true) held 57 v d p) :
    ∃ (s : Value) (rows : List Rw), v = .agg #[s] ∧ SlL w s rows ∧ ∀ r ∈ rows, ∀ g ∈ r.2, GdW g := by
  obtain ⟨cs, rfl, hsz⟩ := okWide_struct Tryz.underlying57 hv
  obtain ⟨fuel, hf⟩ := h
  have hc : Tryz.prog.cellsOf 57 = 1 := by kernel_rfl
  have hs : Tryz.prog.cellsOf 55 = 1 := by kernel_rfl
  obtain ⟨hl, n, h⟩ := struct_get Tryz.underlying57 hf
  obtain ⟨z0, h0⟩ := h 0 _ rfl
  simp only [List.getElem_toArray, List.getElem_cons_zero, hs] at h0
  obtain ⟨l⟩ := cs
  match l, hsz.trans hc with
  | [v0], _ =>
    have h0' : DataW.trod enc Tryz.prog w base (fun _ => true) held n 55 [v0] = some z0 := h0
    obtain ⟨rows, a, b⟩ := rows_in h0'
    exact ⟨v0, rows, rfl, a, b⟩
end
end
end Go.Proofs.YticekgnmiaidjaaGreatDoor
