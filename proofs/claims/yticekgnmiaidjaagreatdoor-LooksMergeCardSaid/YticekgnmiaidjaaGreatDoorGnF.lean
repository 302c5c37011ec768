/- What a grade does not need is zero. (printed by gen_gnf.py) -/
import Derived.Test.YticekgnmiaidjaaGreatDoorGnD
import Derived.DeepKeys
namespace Go.Proofs.YticekgnmiaidjaaGreatDoor

section
open Go.RowKit Go.Lib

theorem run_eqf (d : Nat) (a b : Nat) (w : World) : (Op.equalIn (d + 1) 23 (.float .f32 a) (.float .f32 b)).run Tryz.prog w = .ok (FloatKind.f32.format.order a b == some .eq) w := by
  unfold Op.equalIn
  simp [go_sem, run_underlying Tryz.underlying23, Op.floatEq]
theorem run_eqi (d : Nat) (a b : Int) (w : World) : (Op.equalIn (d + 1) 3 (.int .i64 a) (.int .i64 b)).run Tryz.prog w = .ok (a == b) w := by
  unfold Op.equalIn
  simp [go_sem, run_underlying Tryz.underlying3]
theorem run_eqf0 (d : Nat) (a : Nat) (w : World) : (Op.equalIn (d + 1) 23 (.float .f32 a) (.float .f32 0)).run Tryz.prog w = .ok (zer0 a) w := run_eqf d a 0 w
theorem part_f {X : Array Value} {i x : Nat} (h : X[i]? = some (.float .f32 x)) (w : World) : (part 23 X (i * 1)).run Tryz.prog w = .ok (.float .f32 x) w := by
  simp [go_sem, h]
theorem part_i {X : Array Value} {i : Nat} {x : Int} (h : X[i]? = some (.int .i64 x)) (w : World) : (part 3 X (i * 1)).run Tryz.prog w = .ok (.int .i64 x) w := by
  simp [go_sem, h]
theorem items_f (d : Nat) (X Z : Array Value) (xs : List Nat) (n : Nat) (hX : ∀ i, i < n → X[i]? = some (.float .f32 (xs.getD i 0)) ∧ Z[i]? = some (.float .f32 0)) (w : World) :
    ∀ is : List Nat, (∀ i ∈ is, i < n) → (Op.eqItems (d + 1) 23 1 X Z is).run Tryz.prog w = .ok (is.all fun i => zer0 (xs.getD i 0)) w
  | [], _ => by simp [Op.eqItems]
  | i :: is, h => by
    obtain ⟨h1, h2⟩ := hX i (h i (List.mem_cons_self ..))
    have ih := items_f d X Z xs n hX w is fun j hj => h j (List.mem_cons_of_mem _ hj)
    simp only [Op.eqItems, Sem.run_bind, part_f h1, part_f h2, run_eqf, Result.andThen_ok, List.all_cons]
    show (if (!zer0 (xs.getD i 0)) = true then (pure false : Sem Bool) else Op.eqItems (d + 1) 23 1 X Z is).run Tryz.prog w = _
    cases zer0 (xs.getD i 0)
    · simp
    · simpa using ih
theorem items_i (d : Nat) (X Z : Array Value) (xs : List Int) (n : Nat) (hX : ∀ i, i < n → X[i]? = some (.int .i64 (xs.getD i 0)) ∧ Z[i]? = some (.int .i64 0)) (w : World) :
    ∀ is : List Nat, (∀ i ∈ is, i < n) → (Op.eqItems (d + 1) 3 1 X Z is).run Tryz.prog w = .ok (is.all fun i => decide (xs.getD i 0 = 0)) w
  | [], _ => by simp [Op.eqItems]
  | i :: is, h => by
    obtain ⟨h1, h2⟩ := hX i (h i (List.mem_cons_self ..))
    have ih := items_i d X Z xs n hX w is fun j hj => h j (List.mem_cons_of_mem _ hj)
    simp only [Op.eqItems, Sem.run_bind, part_i h1, part_i h2, run_eqi, Result.andThen_ok, List.all_cons]
    by_cases hz : xs.getD i 0 = 0
    · rw [show (xs.getD i 0 == 0) = true by simpa using hz, decide_eq_true hz]
      simpa using ih
    · rw [show (xs.getD i 0 == 0) = false by simpa using hz, decide_eq_false hz]
      simp
theorem info_of (t : TypeId) (n : Nat) (h : (Tryz.prog.info? t).map (·.size) = some n) : ∃ i, Tryz.prog.info? t = some i ∧ i.size = n := by
  cases hq : Tryz.prog.info? t with
  | none => rw [hq] at h; cases h
  | some i => rw [hq] at h; exact ⟨i, rfl, by simpa using h⟩
theorem all_getD {α : Type} (p : α → Bool) (d : α) : ∀ (xs : List α) (n : Nat), xs.length = n → ((List.range n).all fun i => p (xs.getD i d)) = xs.all p := by
  intro xs n hn
  subst hn
  rw [Bool.eq_iff_iff, List.all_eq_true, List.all_eq_true]
  constructor
  · intro h x hx
    obtain ⟨i, hi, rfl⟩ := List.getElem_of_mem hx
    have := h i (List.mem_range.2 hi)
    rwa [List.getD_eq_getElem?_getD, List.getElem?_eq_getElem hi] at this
  · intro h i hi
    have hi := List.mem_range.1 hi
    rw [List.getD_eq_getElem?_getD, List.getElem?_eq_getElem hi]
    exact h _ (List.getElem_mem hi)
theorem eq_arrf (d n : Nat) (t : TypeId) (hu : Tryz.prog.underlying t = some (.array n 23)) (X Z : Array Value) (xs : List Nat) (hl : xs.length = n) (hX : ∀ i, i < n → X[i]? = some (.float .f32 (xs.getD i 0)) ∧ Z[i]? = some (.float .f32 0)) (w : World) :
    (Op.equalIn (d + 2) t (.agg X) (.agg Z)).run Tryz.prog w = .ok (xs.all zer0) w := by
  obtain ⟨i, hi, hs⟩ := info_of 23 1 (by kernel_rfl)
  have hc : Tryz.prog.cellsOf 23 = 1 := by kernel_rfl
  rw [run_equalIn_array w (d + 1) X Z hu hi, hc, items_f d X Z xs n hX w _ (fun j hj => List.mem_range.1 hj), all_getD zer0 0 xs n hl]
theorem eq_arri (d n : Nat) (t : TypeId) (hu : Tryz.prog.underlying t = some (.array n 3)) (X Z : Array Value) (xs : List Int) (hl : xs.length = n) (hX : ∀ i, i < n → X[i]? = some (.int .i64 (xs.getD i 0)) ∧ Z[i]? = some (.int .i64 0)) (w : World) :
    (Op.equalIn (d + 2) t (.agg X) (.agg Z)).run Tryz.prog w = .ok (xs.all fun n => decide (n = 0)) w := by
  obtain ⟨i, hi, hs⟩ := info_of 3 1 (by kernel_rfl)
  have hc : Tryz.prog.cellsOf 3 = 1 := by kernel_rfl
  rw [run_equalIn_array w (d + 1) X Z hu hi, hc, items_i d X Z xs n hX w _ (fun j hj => List.mem_range.1 hj), all_getD (fun n : Int => decide (n = 0)) 0 xs n hl]
theorem eq_f3 (d a b c : Nat) (w : World) : (Op.equalIn (d + 2) 32 (.agg #[.float .f32 a, .float .f32 b, .float .f32 c]) (.agg #[.float .f32 0, .float .f32 0, .float .f32 0])).run Tryz.prog w = .ok ([a, b, c].all zer0) w :=
  eq_arrf d 3 _ Tryz.underlying32 _ _ [a, b, c] rfl (fun i hi => by rcases (by omega : i = 0 ∨ i = 1 ∨ i = 2) with rfl | rfl | rfl <;> exact ⟨rfl, rfl⟩) w
theorem eq_f12 (d a b c e f g h i j k l m : Nat) (w : World) : (Op.equalIn (d + 2) 41 (.agg #[.float .f32 a, .float .f32 b, .float .f32 c, .float .f32 e, .float .f32 f, .float .f32 g, .float .f32 h, .float .f32 i, .float .f32 j, .float .f32 k, .float .f32 l, .float .f32 m]) (.agg #[.float .f32 0, .float .f32 0, .float .f32 0, .float .f32 0, .float .f32 0, .float .f32 0, .float .f32 0, .float .f32 0, .float .f32 0, .float .f32 0, .float .f32 0, .float .f32 0])).run Tryz.prog w = .ok ([a, b, c, e, f, g, h, i, j, k, l, m].all zer0) w :=
  eq_arrf d 12 _ Tryz.underlying41 _ _ [a, b, c, e, f, g, h, i, j, k, l, m] rfl (fun i hi => by rcases (by omega : i = 0 ∨ i = 1 ∨ i = 2 ∨ i = 3 ∨ i = 4 ∨ i = 5 ∨ i = 6 ∨ i = 7 ∨ i = 8 ∨ i = 9 ∨ i = 10 ∨ i = 11) with rfl | rfl | rfl | rfl | rfl | rfl | rfl | rfl | rfl | rfl | rfl | rfl <;> exact ⟨rfl, rfl⟩) w
theorem eq_i3 (d : Nat) (a b c : Int) (w : World) : (Op.equalIn (d + 2) 44 (.agg #[.int .i64 a, .int .i64 b, .int .i64 c]) (.agg #[.int .i64 0, .int .i64 0, .int .i64 0])).run Tryz.prog w = .ok ([a, b, c].all fun n => decide (n = 0)) w :=
  eq_arri d 3 _ Tryz.underlying44 _ _ [a, b, c] rfl (fun i hi => by rcases (by omega : i = 0 ∨ i = 1 ∨ i = 2) with rfl | rfl | rfl <;> exact ⟨rfl, rfl⟩) w
set_option maxRecDepth 100000 in
theorem eq_wh (a b c e f g h i j : Nat) (w : World) : (Op.equalIn 10000 34 (.agg #[.float .f32 a, .float .f32 b, .float .f32 c, .float .f32 e, .float .f32 f, .float .f32 g, .float .f32 h, .float .f32 i, .float .f32 j]) (.agg #[.float .f32 0, .float .f32 0, .float .f32 0, .float .f32 0, .float .f32 0, .float .f32 0, .float .f32 0, .float .f32 0, .float .f32 0])).run Tryz.prog w = .ok ([a, b, c, e, f, g, h, i, j].all zer0) w := by
  have hf := fun x y z => eq_f3 9997 x y z w
  simp [go_sem, hf]
  cases zer0 a
  · simp
  cases zer0 b
  · simp
  cases zer0 c
  · simp
  cases zer0 e
  · simp
  cases zer0 f
  · simp
  cases zer0 g
  · simp
  cases zer0 h
  · simp
  cases zer0 i
  · simp
  cases zer0 j <;> simp
set_option maxRecDepth 100000 in
theorem eq_ls (a b c e f g h i j k : Nat) (w : World) : (Op.equalIn 10000 36 (.agg #[.float .f32 a, .float .f32 b, .float .f32 c, .float .f32 e, .float .f32 f, .float .f32 g, .float .f32 h, .float .f32 i, .float .f32 j, .float .f32 k]) (.agg #[.float .f32 0, .float .f32 0, .float .f32 0, .float .f32 0, .float .f32 0, .float .f32 0, .float .f32 0, .float .f32 0, .float .f32 0, .float .f32 0])).run Tryz.prog w = .ok ([a, b, c, e, f, g, h, i, j, k].all zer0) w := by
  have hf := fun x y z => eq_f3 9997 x y z w
  have hg := fun x => run_eqf0 9998 x w
  simp [go_sem, hf, hg]
  cases zer0 a
  · simp
  cases zer0 b
  · simp
  cases zer0 c
  · simp
  cases zer0 e
  · simp
  cases zer0 f
  · simp
  cases zer0 g
  · simp
  cases zer0 h
  · simp
  cases zer0 i
  · simp
  cases zer0 j
  · simp
  cases zer0 k <;> simp
set_option maxRecDepth 100000 in
theorem eq_mx (a b c e f g h i j k l m : Nat) (w : World) : (Op.equalIn 10000 43 (.agg #[.float .f32 a, .float .f32 b, .float .f32 c, .float .f32 e, .float .f32 f, .float .f32 g, .float .f32 h, .float .f32 i, .float .f32 j, .float .f32 k, .float .f32 l, .float .f32 m]) (.agg #[.float .f32 0, .float .f32 0, .float .f32 0, .float .f32 0, .float .f32 0, .float .f32 0, .float .f32 0, .float .f32 0, .float .f32 0, .float .f32 0, .float .f32 0, .float .f32 0])).run Tryz.prog w = .ok ([a, b, c, e, f, g, h, i, j, k, l, m].all zer0) w := by
  have hf := fun a b c e f g h i j k l m => eq_f12 9997 a b c e f g h i j k l m w
  simp [go_sem, hf]
  cases zer0 a
  · simp
  cases zer0 b
  · simp
  cases zer0 c
  · simp
  cases zer0 e
  · simp
  cases zer0 f
  · simp
  cases zer0 g
  · simp
  cases zer0 h
  · simp
  cases zer0 i
  · simp
  cases zer0 j
  · simp
  cases zer0 k
  · simp
  cases zer0 l
  · simp
  cases zer0 m <;> simp
end

section
open Go.RowKit Go.Lib

/-- The cells of a grade, one by one. -/
structure GdFlat (C : Array Value) (g : Gd) (w0 w1 w2 w3 w4 w5 w6 w7 w8 l0 l1 l2 l3 l4 l5 l6 l7 l8 l9 m0 m1 m2 m3 m4 m5 m6 m7 m8 m9 m10 m11 : Nat) (n0 n1 n2 : Int) : Prop where
  whe : g.whe = [w0, w1, w2, w3, w4, w5, w6, w7, w8]
  lst : g.lst = [l0, l1, l2, l3, l4, l5, l6, l7, l8, l9]
  mix : g.mix = [m0, m1, m2, m3, m4, m5, m6, m7, m8, m9, m10, m11]
  pts : g.pts = [n0, n1, n2]
theorem GdAt.flat {w : World} {C : Array Value} {g : Gd} (h : GdAt w C g) : ∃ w0 w1 w2 w3 w4 w5 w6 w7 w8 l0 l1 l2 l3 l4 l5 l6 l7 l8 l9 m0 m1 m2 m3 m4 m5 m6 m7 m8 m9 m10 m11 n0 n1 n2, GdFlat C g w0 w1 w2 w3 w4 w5 w6 w7 w8 l0 l1 l2 l3 l4 l5 l6 l7 l8 l9 m0 m1 m2 m3 m4 m5 m6 m7 m8 m9 m10 m11 n0 n1 n2 := by
  obtain ⟨w0, w1, w2, w3, w4, w5, w6, w7, w8, h1⟩ : ∃ w0 w1 w2 w3 w4 w5 w6 w7 w8, g.whe = [w0, w1, w2, w3, w4, w5, w6, w7, w8] := by
    have := h.whe.1
    match g.whe, this with
    | [w0, w1, w2, w3, w4, w5, w6, w7, w8], _ => exact ⟨w0, w1, w2, w3, w4, w5, w6, w7, w8, rfl⟩
  obtain ⟨l0, l1, l2, l3, l4, l5, l6, l7, l8, l9, h2⟩ : ∃ l0 l1 l2 l3 l4 l5 l6 l7 l8 l9, g.lst = [l0, l1, l2, l3, l4, l5, l6, l7, l8, l9] := by
    have := h.lst.1
    match g.lst, this with
    | [l0, l1, l2, l3, l4, l5, l6, l7, l8, l9], _ => exact ⟨l0, l1, l2, l3, l4, l5, l6, l7, l8, l9, rfl⟩
  obtain ⟨m0, m1, m2, m3, m4, m5, m6, m7, m8, m9, m10, m11, h3⟩ : ∃ m0 m1 m2 m3 m4 m5 m6 m7 m8 m9 m10 m11, g.mix = [m0, m1, m2, m3, m4, m5, m6, m7, m8, m9, m10, m11] := by
    have := h.mix.1
    match g.mix, this with
    | [m0, m1, m2, m3, m4, m5, m6, m7, m8, m9, m10, m11], _ => exact ⟨m0, m1, m2, m3, m4, m5, m6, m7, m8, m9, m10, m11, rfl⟩
  obtain ⟨n0, n1, n2, h4⟩ : ∃ n0 n1 n2, g.pts = [n0, n1, n2] := by
    have := h.pts.1
    match g.pts, this with
    | [n0, n1, n2], _ => exact ⟨n0, n1, n2, rfl⟩
  exact ⟨w0, w1, w2, w3, w4, w5, w6, w7, w8, l0, l1, l2, l3, l4, l5, l6, l7, l8, l9, m0, m1, m2, m3, m4, m5, m6, m7, m8, m9, m10, m11, n0, n1, n2, h1, h2, h3, h4⟩
/-- A curve's three cells. -/
theorem GdAt.cv {w : World} {C : Array Value} {g : Gd} (h : GdAt w C g) {j : Nat} {c : Cv} (hc : g.cvs[j]? = some c) : ∃ vx vy, (C.extract 20 (20 + 12)).extract (j * 3) (j * 3 + 3) = #[.int .i64 c.kind, vx, vy] ∧ Sl w vx c.xs ∧ Sl w vy c.ys := by
  have hj : j < 4 := by have := (List.getElem?_eq_some_iff.1 hc).1; rw [h.cvs.1] at this; exact this
  have hD : ∀ i, i < 12 → (C.extract 20 (20 + 12))[i]? = C[20 + i]? := fun i hi => by
    rw [Array.getElem?_extract, if_pos (by rw [h.size]; omega)]
  obtain ⟨hk0, ⟨vx, hvx, slx⟩, vy, hvy, sly⟩ := h.cvs.2 j c hc
  have e0 : (C.extract 20 (20 + 12))[j * 3]? = some (.int .i64 c.kind) := by rw [hD _ (by omega), show 20 + j * 3 = 20 + 3 * j by omega]; exact hk0
  have e1 : (C.extract 20 (20 + 12))[j * 3 + 1]? = some vx := by rw [hD _ (by omega), show 20 + (j * 3 + 1) = 21 + 3 * j by omega]; exact hvx
  have e2 : (C.extract 20 (20 + 12))[j * 3 + 2]? = some vy := by rw [hD _ (by omega), show 20 + (j * 3 + 2) = 22 + 3 * j by omega]; exact hvy
  exact ⟨vx, vy, extract3 e0 e1 e2, slx, sly⟩
theorem Sl.sl {w : World} {v : Value} {xs : List Nat} (h : Sl w v xs) : ∃ a c, v = .slice a xs.length c := by
  rcases h with ⟨b, o, c, h1, _⟩ | ⟨h0, a, c, h1⟩
  · exact ⟨_, _, h1⟩
  · exact ⟨a, c, by rw [h1, h0]; rfl⟩
theorem size_c4 : (Tryz.prog.info? 40).map (·.size) = some 12 := by kernel_rfl
def cvNz (c : Cv) : Bool := !decide (c.kind = 0) || hasP c
def zeroG (g : Gd) : Bool := !g.cvs.any cvNz && (decide (g.kind = 0) && (g.whe.all zer0 && (g.lst.all zer0 && (g.mix.all zer0 && (zer0 g.piv && (zer0 g.amt && g.pts.all fun n => decide (n = 0)))))))
set_option maxRecDepth 100000 in
set_option maxHeartbeats 64000000 in
theorem ref_zeroGrade (C : Array Value) (g : Gd) (W : World) (hG : GdAt W C g) : Calls Tryz.prog 73 #[.agg C] W fun e w' => e = .returned (.bool (zeroG g)) ∧ Below W.heap.size W w' := by
  obtain ⟨R, hR⟩ : ∃ R, zeroG g = R := ⟨_, rfl⟩
  rw [hR]
  have HR := Lib.hid hR
  have HG := Lib.hid hG
  clear hG hR
  obtain ⟨w0, w1, w2, w3, w4, w5, w6, w7, w8, l0, l1, l2, l3, l4, l5, l6, l7, l8, l9, m0, m1, m2, m3, m4, m5, m6, m7, m8, m9, m10, m11, n0, n1, n2, hfl⟩ := HG.out.flat
  have HFl := Lib.hid hfl
  obtain ⟨kk, hkk⟩ : ∃ kk, g.kind = kk := ⟨_, rfl⟩
  have HKK := Lib.hid hkk
  obtain ⟨pv, hpv⟩ : ∃ x, g.piv = x := ⟨_, rfl⟩
  obtain ⟨am, ham⟩ : ∃ x, g.amt = x := ⟨_, rfl⟩
  have HPA := Lib.hid (And.intro hpv ham)
  clear hfl hkk hpv ham
  go_enter Tryz.func73, Tryz.ntmps73
  go_upto_region 1 with fail
  refine name_world ?_
  intro W1 hW1
  have X1 : Hid (Bx W1 W.heap.size 46 C) := Lib.hid (by rw [hW1]; exact Bx.new W _ C)
  have HW : Hid (Below W.heap.size W W1) := Lib.hid (by rw [hW1]; exact bnew (ob := .cells C 46) (Below.refl _ _))
  obtain ⟨p1, hp1⟩ : ∃ p, W.heap.size = p := ⟨_, rfl⟩
  rw [hp1] at X1 ⊢
  have HP1 := Lib.hid hp1
  clear hW1 hp1
  obtain ⟨hD1, hD2⟩ := part_cells X1.out 20 12 (by rw [HG.out.size]; omega)
  have HD := Lib.hid (And.intro hD1 hD2)
  clear hD1 hD2
  go_wp2_with (refine wpList_load_cells rfl 40 (.tmp 5) rfl p1 20 rfl (C.extract 20 (20 + 12)) HD.out.2 _ Tryz.underlying40 rfl (by rw [HD.out.1]; exact size_c4) ?_)
  obtain ⟨D, hD⟩ : ∃ D, C.extract 20 (20 + 12) = D := ⟨_, rfl⟩
  rw [hD]
  have HDe := Lib.hid hD
  clear hD
  go_loopw [7] (fun i wr => ∃ j : Nat, j ≤ 4 ∧ i = .int .i64 (j : Int) ∧ Hid ((g.cvs.take j).any cvNz = false) ∧ Hid (Below W1.heap.size W1 wr)) (fun i _ => 4 - (RowKit.intOf i).toNat)
  case atStart => exact ⟨0, by omega, rfl, Lib.hid rfl, Lib.hid (Below.refl _ _)⟩
  case round =>
    obtain ⟨j, hj, rfl, HA, HB⟩ := hrel
    by_cases hlj : j < 4
    · obtain ⟨c3, hc3⟩ : ∃ c3, g.cvs[j]? = some c3 := ⟨_, List.getElem?_eq_getElem (by have := HG.out.cvs.1; omega)⟩
      obtain ⟨vx, vy, e3, slx, sly⟩ := HG.out.cv hc3
      rw [HDe.out] at e3
      obtain ⟨ax, cx, rfl⟩ := slx.sl
      obtain ⟨ay, cy, rfl⟩ := sly.sl
      obtain ⟨nx, hnx⟩ : ∃ n, c3.xs.length = n := ⟨_, rfl⟩
      obtain ⟨ny, hny⟩ : ∃ n, c3.ys.length = n := ⟨_, rfl⟩
      obtain ⟨ck, hck⟩ : ∃ n, c3.kind = n := ⟨_, rfl⟩
      rw [hnx, hny, hck] at e3
      obtain ⟨D3, hD3⟩ : ∃ D3, (#[Value.int .i64 ck, .slice ax nx cx, .slice ay ny cy] : Array Value) = D3 := ⟨_, rfl⟩
      have hone : D3.all (·.oneCell') = true := by rw [← hD3]; simp [Value.oneCell']
      have hcs : D3.size = 3 := by rw [← hD3]; rfl
      have hst := fun w => curve_store w hcs hone
      rw [hD3] at e3
      have hhp : hasP c3 = (decide (0 < nx) || decide (0 < ny)) := by unfold hasP; rw [hnx, hny]
      have hjl : j < g.cvs.length := by have := HG.out.cvs.1; omega
      have hgd : g.cvs.getD j ⟨0, [], []⟩ = c3 := by rw [List.getD_eq_getElem?_getD, hc3]; rfl
      have h1 := any_takeG cvNz g.cvs ⟨0, [], []⟩ j hjl
      rw [HA.out, Bool.false_or, hgd] at h1
      have h2 := any_has cvNz g.cvs ⟨0, [], []⟩ j hjl
      rw [hgd] at h2
      have HE3 := Lib.hid (And.intro e3 hD3)
      have HC3 := Lib.hid (And.intro h1 (And.intro h2 (And.intro hck hhp)))
      have hd2 : decide ((j : Int) < 4) = true := decide_eq_true (by omega)
      clear hc3 slx sly hnx hny hck hone hD3 e3 hhp hjl hgd h1 h2
      go_upto_region 3 with fail
      go_upto_region 4 with (refine wpList_index_cv rfl (.tmp 6) (.tmp 7) rfl rfl rfl hlj HE3.out.1 ?_)
      clear hst hcs
      refine name_world ?_
      intro W2 hW2
      have X4 : Hid (Bx W2 wr.heap.size 39 D3) := Lib.hid (by rw [hW2]; exact Bx.new wr _ D3)
      have HB2 : Hid (Below W1.heap.size W1 W2) := Lib.hid (by rw [hW2]; exact bnew (ob := .cells D3 39) HB.out)
      obtain ⟨p4, hp4⟩ : ∃ p, wr.heap.size = p := ⟨_, rfl⟩
      rw [hp4] at X4 ⊢
      clear hW2 hp4
      have hD3 := HE3.out.2
      subst hD3
      have hr := X4.out.all.1
      have r0 := hr 0
      have r1 := hr 1
      have r2 := hr 2
      simp only [List.getElem?_toArray, List.getElem?_cons_zero, List.getElem?_cons_succ] at r0 r1 r2
      clear hr
      have HH := Lib.hid HC3.out.2.2.2
      by_cases c0 : ck = 0
      · subst c0
        by_cases h1 : 0 < nx
        · have i1 : (nx : Int) > 0 := by omega
          have HBd : Hid (cvNz c3 = true) := Lib.hid (by unfold cvNz; rw [HC3.out.2.2.1, HC3.out.2.2.2, decide_eq_true h1]; rfl)
          go_wp2_with fail
          go_ret
          exact ⟨ret_bool' (by rw [← HR.out]; unfold zeroG; rw [HC3.out.2.1 HBd.out]; simp), HW.out.trans ((HB2.out).mono HW.out.size)⟩
        · have i1 : ¬ (nx : Int) > 0 := by omega
          by_cases h2 : 0 < ny
          · have i2 : (ny : Int) > 0 := by omega
            have HBd : Hid (cvNz c3 = true) := Lib.hid (by unfold cvNz; rw [HC3.out.2.2.1, HC3.out.2.2.2, decide_eq_true h2]; simp)
            go_wp2_with fail
            go_ret
            exact ⟨ret_bool' (by rw [← HR.out]; unfold zeroG; rw [HC3.out.2.1 HBd.out]; simp), HW.out.trans ((HB2.out).mono HW.out.size)⟩
          · have i2 : ¬ (ny : Int) > 0 := by omega
            have HBd : Hid (cvNz c3 = false) := Lib.hid (by unfold cvNz; rw [HC3.out.2.2.1, HC3.out.2.2.2, decide_eq_false h1, decide_eq_false h2]; rfl)
            go_wp2_with fail
            go_roundw
            case rel => exact ⟨j + 1, by omega, by go_num, Lib.hid (by rw [HC3.out.1, HBd.out]), Lib.hid (HB2.out)⟩
            case measure => simp [RowKit.intOf]; omega
      · have HBd : Hid (cvNz c3 = true) := Lib.hid (by unfold cvNz; rw [HC3.out.2.2.1, decide_eq_false c0]; rfl)
        go_wp2_with fail
        go_ret
        exact ⟨ret_bool' (by rw [← HR.out]; unfold zeroG; rw [HC3.out.2.1 HBd.out]; simp), HW.out.trans ((HB2.out).mono HW.out.size)⟩
    · obtain rfl : j = 4 := by omega
      have HA4 : Hid (g.cvs.any cvNz = false) := Lib.hid (by have := HA.out; rw [show g.cvs.take 4 = g.cvs by rw [← HG.out.cvs.1, List.take_length]] at this; exact this)
      have BQ := X1.out.keep HB.out
      have q0 : wr.cell? ⟨p1, 0, none⟩ = some (.int .i64 kk) := by rw [BQ.all.1, HG.out.kind, HKK.out]
      have q1 : wr.cell? ⟨p1, 1, none⟩ = some (.float .f32 w0) := by rw [BQ.all.1, HG.out.whe.2 0 (by omega), HFl.out.whe]; rfl
      have q2 : wr.cell? ⟨p1, 2, none⟩ = some (.float .f32 w1) := by rw [BQ.all.1, HG.out.whe.2 1 (by omega), HFl.out.whe]; rfl
      have q3 : wr.cell? ⟨p1, 3, none⟩ = some (.float .f32 w2) := by rw [BQ.all.1, HG.out.whe.2 2 (by omega), HFl.out.whe]; rfl
      have q4 : wr.cell? ⟨p1, 4, none⟩ = some (.float .f32 w3) := by rw [BQ.all.1, HG.out.whe.2 3 (by omega), HFl.out.whe]; rfl
      have q5 : wr.cell? ⟨p1, 5, none⟩ = some (.float .f32 w4) := by rw [BQ.all.1, HG.out.whe.2 4 (by omega), HFl.out.whe]; rfl
      have q6 : wr.cell? ⟨p1, 6, none⟩ = some (.float .f32 w5) := by rw [BQ.all.1, HG.out.whe.2 5 (by omega), HFl.out.whe]; rfl
      have q7 : wr.cell? ⟨p1, 7, none⟩ = some (.float .f32 w6) := by rw [BQ.all.1, HG.out.whe.2 6 (by omega), HFl.out.whe]; rfl
      have q8 : wr.cell? ⟨p1, 8, none⟩ = some (.float .f32 w7) := by rw [BQ.all.1, HG.out.whe.2 7 (by omega), HFl.out.whe]; rfl
      have q9 : wr.cell? ⟨p1, 9, none⟩ = some (.float .f32 w8) := by rw [BQ.all.1, HG.out.whe.2 8 (by omega), HFl.out.whe]; rfl
      have q10 : wr.cell? ⟨p1, 10, none⟩ = some (.float .f32 l0) := by rw [BQ.all.1, HG.out.lst.2 0 (by omega), HFl.out.lst]; rfl
      have q11 : wr.cell? ⟨p1, 11, none⟩ = some (.float .f32 l1) := by rw [BQ.all.1, HG.out.lst.2 1 (by omega), HFl.out.lst]; rfl
      have q12 : wr.cell? ⟨p1, 12, none⟩ = some (.float .f32 l2) := by rw [BQ.all.1, HG.out.lst.2 2 (by omega), HFl.out.lst]; rfl
      have q13 : wr.cell? ⟨p1, 13, none⟩ = some (.float .f32 l3) := by rw [BQ.all.1, HG.out.lst.2 3 (by omega), HFl.out.lst]; rfl
      have q14 : wr.cell? ⟨p1, 14, none⟩ = some (.float .f32 l4) := by rw [BQ.all.1, HG.out.lst.2 4 (by omega), HFl.out.lst]; rfl
      have q15 : wr.cell? ⟨p1, 15, none⟩ = some (.float .f32 l5) := by rw [BQ.all.1, HG.out.lst.2 5 (by omega), HFl.out.lst]; rfl
      have q16 : wr.cell? ⟨p1, 16, none⟩ = some (.float .f32 l6) := by rw [BQ.all.1, HG.out.lst.2 6 (by omega), HFl.out.lst]; rfl
      have q17 : wr.cell? ⟨p1, 17, none⟩ = some (.float .f32 l7) := by rw [BQ.all.1, HG.out.lst.2 7 (by omega), HFl.out.lst]; rfl
      have q18 : wr.cell? ⟨p1, 18, none⟩ = some (.float .f32 l8) := by rw [BQ.all.1, HG.out.lst.2 8 (by omega), HFl.out.lst]; rfl
      have q19 : wr.cell? ⟨p1, 19, none⟩ = some (.float .f32 l9) := by rw [BQ.all.1, HG.out.lst.2 9 (by omega), HFl.out.lst]; rfl
      have q32 : wr.cell? ⟨p1, 32, none⟩ = some (.float .f32 m0) := by rw [BQ.all.1, HG.out.mix.2 0 (by omega), HFl.out.mix]; rfl
      have q33 : wr.cell? ⟨p1, 33, none⟩ = some (.float .f32 m1) := by rw [BQ.all.1, HG.out.mix.2 1 (by omega), HFl.out.mix]; rfl
      have q34 : wr.cell? ⟨p1, 34, none⟩ = some (.float .f32 m2) := by rw [BQ.all.1, HG.out.mix.2 2 (by omega), HFl.out.mix]; rfl
      have q35 : wr.cell? ⟨p1, 35, none⟩ = some (.float .f32 m3) := by rw [BQ.all.1, HG.out.mix.2 3 (by omega), HFl.out.mix]; rfl
      have q36 : wr.cell? ⟨p1, 36, none⟩ = some (.float .f32 m4) := by rw [BQ.all.1, HG.out.mix.2 4 (by omega), HFl.out.mix]; rfl
      have q37 : wr.cell? ⟨p1, 37, none⟩ = some (.float .f32 m5) := by rw [BQ.all.1, HG.out.mix.2 5 (by omega), HFl.out.mix]; rfl
      have q38 : wr.cell? ⟨p1, 38, none⟩ = some (.float .f32 m6) := by rw [BQ.all.1, HG.out.mix.2 6 (by omega), HFl.out.mix]; rfl
      have q39 : wr.cell? ⟨p1, 39, none⟩ = some (.float .f32 m7) := by rw [BQ.all.1, HG.out.mix.2 7 (by omega), HFl.out.mix]; rfl
      have q40 : wr.cell? ⟨p1, 40, none⟩ = some (.float .f32 m8) := by rw [BQ.all.1, HG.out.mix.2 8 (by omega), HFl.out.mix]; rfl
      have q41 : wr.cell? ⟨p1, 41, none⟩ = some (.float .f32 m9) := by rw [BQ.all.1, HG.out.mix.2 9 (by omega), HFl.out.mix]; rfl
      have q42 : wr.cell? ⟨p1, 42, none⟩ = some (.float .f32 m10) := by rw [BQ.all.1, HG.out.mix.2 10 (by omega), HFl.out.mix]; rfl
      have q43 : wr.cell? ⟨p1, 43, none⟩ = some (.float .f32 m11) := by rw [BQ.all.1, HG.out.mix.2 11 (by omega), HFl.out.mix]; rfl
      have q44 : wr.cell? ⟨p1, 44, none⟩ = some (.float .f32 g.piv) := by rw [BQ.all.1, HG.out.piv]
      have q45 : wr.cell? ⟨p1, 45, none⟩ = some (.float .f32 g.amt) := by rw [BQ.all.1, HG.out.amt]
      have q46 : wr.cell? ⟨p1, 46, none⟩ = some (.int .i64 n0) := by rw [BQ.all.1, HG.out.pts.2 0 (by omega), HFl.out.pts]; rfl
      have q47 : wr.cell? ⟨p1, 47, none⟩ = some (.int .i64 n1) := by rw [BQ.all.1, HG.out.pts.2 1 (by omega), HFl.out.pts]; rfl
      have q48 : wr.cell? ⟨p1, 48, none⟩ = some (.int .i64 n2) := by rw [BQ.all.1, HG.out.pts.2 2 (by omega), HFl.out.pts]; rfl
      rw [HPA.out.1] at q44
      rw [HPA.out.2] at q45
      obtain ⟨zw, hzw⟩ : ∃ z, [w0, w1, w2, w3, w4, w5, w6, w7, w8].all zer0 = z := ⟨_, rfl⟩
      obtain ⟨zl, hzl⟩ : ∃ z, [l0, l1, l2, l3, l4, l5, l6, l7, l8, l9].all zer0 = z := ⟨_, rfl⟩
      obtain ⟨zm, hzm⟩ : ∃ z, [m0, m1, m2, m3, m4, m5, m6, m7, m8, m9, m10, m11].all zer0 = z := ⟨_, rfl⟩
      obtain ⟨zn, hzn⟩ : ∃ z, ([n0, n1, n2].all fun n => decide (n = 0)) = z := ⟨_, rfl⟩
      have ewh := fun w => eq_wh w0 w1 w2 w3 w4 w5 w6 w7 w8 w
      have els := fun w => eq_ls l0 l1 l2 l3 l4 l5 l6 l7 l8 l9 w
      have emx := fun w => eq_mx m0 m1 m2 m3 m4 m5 m6 m7 m8 m9 m10 m11 w
      have ept := fun w => eq_i3 9998 n0 n1 n2 w
      simp only [hzw] at ewh
      simp only [hzl] at els
      simp only [hzm] at emx
      simp only [hzn] at ept
      have HRR : Hid ((decide (kk = 0) && (zw && (zl && (zm && (zer0 pv && (zer0 am && zn)))))) = R) := Lib.hid (by
        rw [← HR.out]; unfold zeroG
        rw [HA4.out, HKK.out, HFl.out.whe, HFl.out.lst, HFl.out.mix, HFl.out.pts, HPA.out.1, HPA.out.2, hzw, hzl, hzm, hzn]; rfl)
      have HBF := Lib.hid (HW.out.trans (HB.out.mono HW.out.size))
      clear hzw hzl hzm hzn BQ hlj hj
      by_cases k0 : kk = 0
      · subst k0
        cases zw
        · go_wp2_with fail
          go_ret
          exact ⟨ret_bool' (by rw [← HRR.out]; simp [*]), HBF.out⟩
        · cases zl
          · go_wp2_with fail
            go_ret
            exact ⟨ret_bool' (by rw [← HRR.out]; simp [*]), HBF.out⟩
          · cases zm
            · go_wp2_with fail
              go_ret
              exact ⟨ret_bool' (by rw [← HRR.out]; simp [*]), HBF.out⟩
            · cases zpv : (FloatKind.f32.format.order pv 0 == some .eq)
              · have zzpv : zer0 pv = false := zpv
                go_wp2_with fail
                go_ret
                exact ⟨ret_bool' (by rw [← HRR.out]; simp [*]), HBF.out⟩
              · have zzpv : zer0 pv = true := zpv
                cases zam : (FloatKind.f32.format.order am 0 == some .eq)
                · have zzam : zer0 am = false := zam
                  go_wp2_with fail
                  go_ret
                  exact ⟨ret_bool' (by rw [← HRR.out]; simp [*]), HBF.out⟩
                · have zzam : zer0 am = true := zam
                  cases zn
                  · go_wp2_with fail
                    go_ret
                    exact ⟨ret_bool' (by rw [← HRR.out]; simp [*]), HBF.out⟩
                  · go_wp2_with fail
                    go_ret
                    exact ⟨ret_bool' (by rw [← HRR.out]; simp [*]), HBF.out⟩
      · go_wp2_with fail
        go_ret
        exact ⟨ret_bool' (by rw [← HRR.out]; simp [*]), HBF.out⟩
end
end Go.Proofs.YticekgnmiaidjaaGreatDoor
