/- slices.DeleteFunc of what slices.Clone gave. (printed by gen_nuo.py) -/
import Derived.Test.YticekgnmiaidjaaGreatDoorNuC
import Derived.Lib.SliceRun
import Derived.Deep.Slices
namespace Go.Proofs.YticekgnmiaidjaaGreatDoor

section
open Go.RowKit Go.Lib Go.Deep Go.WideShapes Go.ChangeShapes

abbrev GX := Array Value × Gd
def csX (X : List GX) : List (Array Value) := X.map (·.1)
def gsX (X : List GX) : List Gd := X.map (·.2)
theorem cellsG_cons (D : Array Value) (Cs : List (Array Value)) : cellsG (D :: Cs) = D.toList ++ cellsG Cs := List.flatMap_cons
theorem cellsG_set : ∀ {Cs : List (Array Value)}, (∀ C ∈ Cs, C.size = 49) → ∀ (i : Nat) (C : Array Value), i < Cs.length → (cellsG Cs).take (i * 49) ++ C.toList ++ (cellsG Cs).drop (i * 49 + 49) = cellsG (Cs.set i C)
  | [], _, i, C, hi => by simp at hi
  | D :: Cs, h, 0, C, _ => by
    have hl : D.toList.length = 49 := by simpa using h D (List.mem_cons_self ..)
    rw [List.set_cons_zero, cellsG_cons, cellsG_cons, Nat.zero_mul, List.take_zero, List.nil_append, Nat.zero_add, List.drop_append, hl, Nat.sub_self, List.drop_zero, List.drop_of_length_le (by omega), List.nil_append]
  | D :: Cs, h, i + 1, C, hi => by
    have hl : D.toList.length = 49 := by simpa using h D (List.mem_cons_self ..)
    have ih := cellsG_set (Cs := Cs) (fun E hE => h E (List.mem_cons_of_mem _ hE)) i C (by simpa using hi)
    rw [List.set_cons_succ, cellsG_cons, cellsG_cons, ← ih, List.take_append, List.drop_append, hl, List.take_of_length_le (by omega), List.drop_of_length_le (by omega), show (i + 1) * 49 - 49 = i * 49 by omega, show (i + 1) * 49 + 49 - 49 = i * 49 + 49 by omega, List.nil_append]
    simp only [List.append_assoc]
/-- The block p holds the cells of X, then R. -/
structure RwX (w : World) (p : Nat) (X : List GX) (R : List Value) : Prop where
  bx : Bx w p 46 (cellsG (csX X) ++ R).toArray
  sz : ∀ x ∈ X, x.1.size = 49
theorem RwX.szC {w : World} {p : Nat} {X : List GX} {R : List Value} (h : RwX w p X R) : ∀ C ∈ csX X, C.size = 49 := fun C hC => by
  obtain ⟨x, hx, rfl⟩ := List.mem_map.1 hC
  exact h.sz x hx
theorem RwX.len {w : World} {p : Nat} {X : List GX} {R : List Value} (h : RwX w p X R) : (cellsG (csX X)).length = X.length * 49 := by
  rw [cellsG_len h.szC]; simp [csX]
theorem RwX.cell {w : World} {p : Nat} {X : List GX} {R : List Value} (h : RwX w p X R) {k : Nat} {x : GX} (hk : X[k]? = some x) {q : Nat} (hq : q = k * 49) : ∀ (j : Nat) (v : Value), x.1[j]? = some v → w.cell? ⟨p, q + j, none⟩ = some v := fun j v hj => by
  have hs := h.sz x (List.mem_of_getElem? hk)
  have hj49 : j < 49 := by rw [← hs]; exact (Array.getElem?_eq_some_iff.1 hj).1
  have hkl := (List.getElem?_eq_some_iff.1 hk).1
  subst hq
  rw [h.bx.all.1, List.getElem?_toArray, List.getElem?_append_left (by rw [h.len]; omega), cellsG_get h.szC (C := x.1) (by simp [csX, hk]) j hj49, hj]
theorem RwX.kx {w w' : World} {p : Nat} {X : List GX} {R : List Value} (h : RwX w p X R) (hb : Below w.heap.size w w') : RwX w' p X R := ⟨h.bx.keep hb, h.sz⟩
theorem RwX.short {w : World} {p : Nat} {X Y : List GX} {R : List Value} (h : RwX w p (X ++ Y) R) : RwX w p X (cellsG (csX Y) ++ R) := by
  refine ⟨?_, fun x hx => h.sz x (List.mem_append_left _ hx)⟩
  have := h.bx
  rw [csX, List.map_append, ← csX, ← csX, cellsG_append, List.append_assoc] at this
  exact this
theorem kx_row {w : World} {p : Nat} (cs : Array Value) : Kx p w (w.setRow p cs) := ⟨rfl, rfl, rfl, by simp [World.setRow], fun k _ hp => setRow_other w p k cs hp⟩
theorem run_storeCells_x {w : World} {p i q : Nat} {C : Array Value} {g : Gd} {X : List GX} {R : List Value} (h : RwX w p X R) (hi : i < X.length) (hq : q = i * 49) (hC : C.size = 49) (h1 : C.all (·.oneCell') = true) :
    ∃ w', (storeCells ⟨p, q, none⟩ C.toList 0).run Tryz.prog w = .ok () w' ∧ RwX w' p (X.set i (C, g)) R ∧ Kx p w w' := by
  have hl : C.toList.length = 49 := by simpa using hC
  have hln := h.len
  have hs := run_storeCells_at (P := Tryz.prog) p q 46 C.toList 0 (cellsG (csX X) ++ R).toArray w h.bx (by rw [List.size_toArray, List.length_append, hln, hl]; omega) (fun v hv => (Array.all_eq_true_iff_forall_mem.1 h1) v (by simpa using hv))
  refine ⟨_, hs, ⟨?_, fun x hx => ?_⟩, kx_row _⟩
  · have e : ((cellsG (csX X) ++ R).toArray.toList.take (q + 0) ++ C.toList ++ (cellsG (csX X) ++ R).toArray.toList.drop (q + 0 + C.toList.length)).toArray = (cellsG (csX (X.set i (C, g))) ++ R).toArray := by
      congr 1
      rw [List.toList_toArray, Nat.add_zero, hl, hq, List.take_append_of_le_length (by rw [hln]; omega), List.drop_append_of_le_length (by rw [hln]; omega), ← List.append_assoc, cellsG_set h.szC i C (by simpa [csX] using hi)]
      simp [csX, List.map_set]
    rw [e]
    exact setRow_heap w p _ _ _ _ h.bx
  · rcases List.mem_or_eq_of_mem_set hx with hx | rfl
    · exact h.sz x hx
    · exact hC
/-- A grade stored over the i-th. -/
theorem wpList_store_x {ops : Array Oper} {rest : List Oper} {o : Oper} {a : Act} {w : World} {Q : Exit → Act → World → Prop} (hgd : o.guard = none) (x y : Operand) (ho : o.op = .store 46 x y) (p i q : Nat) (C : Array Value) (g : Gd)
    (hx : a.eval x = .pointer (some ⟨p, q, none⟩)) (hy : a.eval y = .agg C) {X : List GX} {R : List Value} (hX : RwX w p X R) (hi : i < X.length) (hq : q = i * 49) (hC : C.size = 49) (h1 : C.all (·.oneCell') = true)
    (h : ∀ w', RwX w' p (X.set i (C, g)) R → Kx p w w' → wpList Tryz.prog ops Q rest (a.put o.dst undef) w') : wpList Tryz.prog ops Q (o :: rest) a w :=
  wpList_plain hgd fun _ hK => by
    obtain ⟨w', hr, h2, h3⟩ := run_storeCells_x (g := g) hX hi hq hC h1
    have hst : (storeVar 46 ⟨p, q, none⟩ (.agg C)).run Tryz.prog w = .ok () w' := by
      have hsz := grade_size
      cases hqi : Tryz.prog.info? 46 with
      | none => rw [hqi] at hsz; cases hsz
      | some inf =>
        have hs : inf.size = 49 := by rw [hqi] at hsz; simpa using hsz
        simp [storeVar, sizeOf, typeInfo, hqi, Value.cells, hs, hC, hr]
    unfold Oper.wp execOp
    simp only [ho, hx, hy, Instr.storeAt, Instr.sureAddr, Sem.run_bind, Sem.run_pure, Result.andThen_ok, hst]
    exact hK _ _ (h w' h2 h3)
theorem zero_cells {Z : Array Value} (hs : Z.size = 49) (h1 : Z.all (·.oneCell') = true) (n : Nat) : (Builtin.zeroCells Z n).toList.length = n * 49 ∧ ∀ v ∈ (Builtin.zeroCells Z n).toList, v.oneCell' = true := by
  refine ⟨by simp [Builtin.zeroCells, hs], fun v hv => ?_⟩
  unfold Builtin.zeroCells at hv
  rw [Array.toList_map] at hv
  obtain ⟨i, _, rfl⟩ := List.mem_map.1 hv
  have hm : i % Z.size < Z.size := Nat.mod_lt _ (by rw [hs]; decide)
  rw [getElem!_pos Z (i % Z.size) hm]
  exact Array.all_eq_true.1 h1 _ hm
theorem zero_of : ∃ Z : Array Value, (∀ w, (zeroValue 46).run Tryz.prog w = .ok (.agg Z) w) ∧ Z.size = 49 ∧ Z.all (·.oneCell') = true := by
  obtain ⟨i0, hi, h1, _, _⟩ := info_parts infoGr
  refine ⟨#[.int .i64 0, .float .f32 0, .float .f32 0, .float .f32 0, .float .f32 0, .float .f32 0, .float .f32 0, .float .f32 0, .float .f32 0, .float .f32 0, .float .f32 0, .float .f32 0, .float .f32 0, .float .f32 0, .float .f32 0, .float .f32 0, .float .f32 0, .float .f32 0, .float .f32 0, .float .f32 0, .int .i64 0, .slice none 0 0, .slice none 0 0, .int .i64 0, .slice none 0 0, .slice none 0 0, .int .i64 0, .slice none 0 0, .slice none 0 0, .int .i64 0, .slice none 0 0, .slice none 0 0, .float .f32 0, .float .f32 0, .float .f32 0, .float .f32 0, .float .f32 0, .float .f32 0, .float .f32 0, .float .f32 0, .float .f32 0, .float .f32 0, .float .f32 0, .float .f32 0, .float .f32 0, .float .f32 0, .int .i64 0, .int .i64 0, .int .i64 0], fun w => ?_, rfl, ?_⟩
  · simp [zeroValue, typeInfo, hi, h1]
  · simp [Value.oneCell']
set_option maxRecDepth 100000 in
theorem run_clear_x {w : World} {p q n c : Nat} {X Y : List GX} {R : List Value} (h : RwX w p (X ++ Y) R) (hq : q = X.length * 49) (hn : n = Y.length) (h0 : 0 < n) :
    ∃ w' R', (∀ ty, (Builtin.clear_ #[22] ty #[.slice (some ⟨p, q, none⟩) n c]).run Tryz.prog w = .ok (.tuple #[]) w') ∧ RwX w' p X R' ∧ R'.length = Y.length * 49 + R.length ∧ Kx p w w' := by
  obtain ⟨Z, hz, hZs, hZ1⟩ := zero_of
  obtain ⟨hz1, hz2⟩ := zero_cells hZs hZ1 n
  obtain ⟨zs, hzs⟩ : ∃ zs, Builtin.zeroCells Z n = zs := ⟨_, rfl⟩
  rw [hzs] at hz1 hz2
  have hln := h.len
  rw [List.length_append] at hln
  have hlX := h.short.len
  have hY : (cellsG (csX Y)).length = Y.length * 49 := by
    rw [csX, List.map_append, ← csX, ← csX, cellsG_append, List.length_append, hlX] at hln
    omega
  have hs := run_storeCells_at (P := Tryz.prog) p q 46 zs.toList 0 (cellsG (csX (X ++ Y)) ++ R).toArray w h.bx (by rw [List.size_toArray, List.length_append, hln, hz1, hq, hn]; omega) hz2
  have e : ((cellsG (csX (X ++ Y)) ++ R).toArray.toList.take (q + 0) ++ zs.toList ++ (cellsG (csX (X ++ Y)) ++ R).toArray.toList.drop (q + 0 + zs.toList.length)).toArray = (cellsG (csX X) ++ (zs.toList ++ R)).toArray := by
    congr 1
    rw [List.toList_toArray, Nat.add_zero, hz1, hq, hn]
    have e1 : cellsG (csX (X ++ Y)) ++ R = cellsG (csX X) ++ (cellsG (csX Y) ++ R) := by rw [csX, List.map_append, ← csX, ← csX, cellsG_append, List.append_assoc]
    rw [e1, ← hlX, List.take_left, ← hY, ← List.drop_drop, List.drop_left, List.drop_left, List.append_assoc]
  rw [e] at hs
  refine ⟨w.setRow p (cellsG (csX X) ++ (zs.toList ++ R)).toArray, zs.toList ++ R, fun ty => ?_, ⟨setRow_heap w p _ _ _ _ h.bx, h.short.sz⟩, by rw [List.length_append, hz1, hn], kx_row _⟩
  obtain ⟨m, rfl⟩ : ∃ m, n = m + 1 := ⟨n - 1, by omega⟩
  simp [Builtin.clear_, run_underlying Tryz.underlying22, hz, Value.cells, hzs, hs]

/-- The cells of grades that lie behind each other. -/
theorem GlAt.cells {w : World} {b o : Nat} {gs : List Gd} (h : GlAt w b o gs) : ∃ X : List GX, gsX X = gs ∧ (∀ x ∈ X, GdAt w x.1 x.2) ∧ ∀ (k : Nat) (x : GX), X[k]? = some x → ∀ (j : Nat) (v : Value), x.1[j]? = some v → w.cell? ⟨b, o + k * 49 + j, none⟩ = some v := by
  haveI : Inhabited GX := ⟨(#[], ⟨0, [], [], [], [], 0, 0, []⟩)⟩
  have hb : ∀ k, k < gs.length → ∃ x : GX, gs[k]? = some x.2 ∧ GdAt w x.1 x.2 ∧ ∀ (j : Nat) (v : Value), x.1[j]? = some v → w.cell? ⟨b, o + k * 49 + j, none⟩ = some v := fun k hk => by
    obtain ⟨C, h1, h2⟩ := h k gs[k] (List.getElem?_eq_getElem hk)
    exact ⟨(C, gs[k]), List.getElem?_eq_getElem hk, h1, h2⟩
  obtain ⟨F, hF⟩ := choose_lt (α := GX) (p := fun k x => gs[k]? = some x.2 ∧ GdAt w x.1 x.2 ∧ ∀ (j : Nat) (v : Value), x.1[j]? = some v → w.cell? ⟨b, o + k * 49 + j, none⟩ = some v) hb
  refine ⟨(List.range gs.length).map F, ?_, fun x hx => ?_, fun k x hk => ?_⟩
  · apply List.ext_getElem?
    intro k
    by_cases hk : k < gs.length
    · have := (hF k hk).1
      rw [this]
      simp [gsX, hk]
    · rw [List.getElem?_eq_none (show gs.length ≤ k by omega), List.getElem?_eq_none (by simp [gsX]; omega)]
  · obtain ⟨k, hk, rfl⟩ := List.mem_map.1 hx
    exact (hF k (List.mem_range.1 hk)).2.1
  · have hkl : k < gs.length := by
      have := (List.getElem?_eq_some_iff.1 hk).1
      simpa using this
    have e : F k = x := by simpa [hkl] using hk
    rw [← e]
    exact (hF k hkl).2.2
theorem cellsG_at {w : World} {b o : Nat} {X : List GX} (hs : ∀ x ∈ X, x.1.size = 49) (h : ∀ (k : Nat) (x : GX), X[k]? = some x → ∀ (j : Nat) (v : Value), x.1[j]? = some v → w.cell? ⟨b, o + k * 49 + j, none⟩ = some v) : ∀ (j : Nat) (v : Value), (cellsG (csX X))[j]? = some v → w.cell? ⟨b, o + j, none⟩ = some v := fun j v hj => by
  have hsC : ∀ C ∈ csX X, C.size = 49 := fun C hC => by
    obtain ⟨x, hx, rfl⟩ := List.mem_map.1 hC
    exact hs x hx
  have hl := (List.getElem?_eq_some_iff.1 hj).1
  rw [cellsG_len hsC] at hl
  have hlx : (csX X).length = X.length := by simp [csX]
  rw [hlx] at hl
  have hk : j / 49 < X.length := by omega
  have e := cellsG_get hsC (k := j / 49) (C := X[j / 49].1) (by simp [csX, hk]) (j % 49) (by omega)
  rw [show j / 49 * 49 + j % 49 = j by omega, hj] at e
  have := h (j / 49) _ (List.getElem?_eq_getElem hk) (j % 49) v e.symm
  rw [show o + j / 49 * 49 + j % 49 = o + j by omega] at this
  exact this
/-- The call's own row: its grades X. -/
structure OwnX (B : Nat) (w : World) (v : Value) (X : List GX) : Prop where
  gr : OwnGr B w v (csX X) (gsX X)
set_option maxRecDepth 100000 in
set_option maxHeartbeats 4000000 in
theorem sl_CloneG (v : Value) (gs : List Gd) (W : World) (h : SlG W v gs) (hn : gs.length ≤ 1000) :
    Calls Tryz.prog 11 #[v] W fun e w' => ∃ v' X, e = .returned v' ∧ gsX X = gs ∧ OwnGr W.heap.size w' v' (csX X) gs ∧ (∀ x ∈ X, GdAt W x.1 x.2) ∧ Below W.heap.size W w' := by
  obtain ⟨i0, hi, hz0, hz1, hz2⟩ := info_parts infoGr
  have q22 : ∀ (w : World) (a : Option Addr) (n c n' c' : Nat), (binOp .eql 22 (.slice a n c) (.slice none n' c')).run Tryz.prog w = .ok (.bool a.isNone) w := fun w a n c n' c' => Lib.run_eql_slice_nil w _ _ a n c n' c' Tryz.underlying22
  obtain ⟨a, c, rfl, _, _, hrow⟩ := h
  obtain ⟨X, hX⟩ : ∃ X : List GX, gsX X = gs ∧ (∀ x ∈ X, GdAt W x.1 x.2) ∧ (gs = [] ∨ ∃ b o, a = some ⟨b, o, none⟩ ∧ ∀ (j : Nat) (v : Value), (cellsG (csX X))[j]? = some v → W.cell? ⟨b, o + j, none⟩ = some v) := by
    rcases hrow with rfl | ⟨b, o, rfl, _, hG⟩
    · exact ⟨[], rfl, (fun x hx => by cases hx), .inl rfl⟩
    · obtain ⟨X, h1, h2, h3⟩ := hG.cells
      exact ⟨X, h1, h2, .inr ⟨b, o, rfl, cellsG_at (fun x hx => (h2 x hx).size) h3⟩⟩
  have hlX : (csX X).length = gs.length := by rw [← hX.1]; simp [csX, gsX]
  have hszX : ∀ C ∈ csX X, C.size = 49 := fun C hC => by
    obtain ⟨x, hx, rfl⟩ := List.mem_map.1 hC
    exact (hX.2.1 x hx).size
  have hone : ∀ u ∈ cellsG (csX X), u.oneCell' = true := fun u hu => by
    obtain ⟨C, hC, hm⟩ := List.mem_flatMap.1 hu
    obtain ⟨x, hx, rfl⟩ := List.mem_map.1 hC
    exact (Array.all_eq_true_iff_forall_mem.1 (hX.2.1 x hx).one) u (by simpa using hm)
  have hgdX : ∀ (w' : World), Below W.heap.size W w' → ∀ (k : Nat) (C : Array Value) (g : Gd), (csX X)[k]? = some C → gs[k]? = some g → GdAt w' C g := fun w' hb k C g hC hg => by
    rw [← hX.1] at hg
    have hk : k < X.length := by have := (List.getElem?_eq_some_iff.1 hC).1; simpa [csX] using this
    have e1 : X[k].1 = C := by simpa [csX, hk] using hC
    have e2 : X[k].2 = g := by simpa [gsX, hk] using hg
    rw [← e1, ← e2]
    exact (hX.2.1 _ (List.getElem_mem hk)).keep hb
  have hcvX : ∀ (w' : World), ∀ C ∈ csX X, CvOk W.heap.size w' C := fun w' C hC => by
    obtain ⟨x, hx, rfl⟩ := List.mem_map.1 hC
    exact (hX.2.1 x hx).cvok (Nat.le_refl _) w'
  obtain ⟨n, hnn⟩ : ∃ n, gs.length = n := ⟨_, rfl⟩
  have HX := Lib.hid (And.intro hX (And.intro hlX (And.intro hszX (And.intro hone (And.intro hgdX (And.intro hcvX hnn))))))
  rw [hnn] at hn ⊢
  clear hX hlX hszX hone hgdX hcvX hnn hrow
  cases a with
  | none =>
    have h0 : gs = [] := by
      rcases HX.out.1.2.2 with h | ⟨b, o, h, _⟩
      · exact h
      · cases h
    have hX0 : X = [] := by
      have := HX.out.2.1
      rw [h0] at this
      exact List.length_eq_zero_iff.1 (by simpa [csX] using this)
    have H0 := Lib.hid (And.intro h0 hX0)
    clear h0 hX0
    go_enter Tryz.func11, Tryz.ntmps11
    go_wp2_with fail
    go_ret
    refine ⟨_, rfl, X, HX.out.1.1, ?_, fun a b h => HX.out.1.2.1 (a, b) h, Below.refl _ _⟩
    rw [H0.out.1, H0.out.2]
    exact OwnGr.nil _ _
  | some ad =>
    have hcel : ∀ (j : Nat) (v : Value), (cellsG (csX X))[j]? = some v → W.cell? (ad.add j) = some v := fun j v hj => by
      rcases HX.out.1.2.2 with h | ⟨b, o, h, h2⟩
      · have := HX.out.2.1
        rw [h] at this
        rw [List.length_eq_zero_iff.1 this] at hj
        simp [cellsG] at hj
      · cases h
        rw [add_none]
        exact h2 j v hj
    have HC := Lib.hid hcel
    clear hcel
    go_enter Tryz.func11, Tryz.ntmps11
    go_wp2_with (at_builtin; refine wpList_append_own _ rfl _ _ 22 rfl W.heap.size 46 i0 (.agg #[.int .i64 0, .float .f32 0, .float .f32 0, .float .f32 0, .float .f32 0, .float .f32 0, .float .f32 0, .float .f32 0, .float .f32 0, .float .f32 0, .float .f32 0, .float .f32 0, .float .f32 0, .float .f32 0, .float .f32 0, .float .f32 0, .float .f32 0, .float .f32 0, .float .f32 0, .float .f32 0, .int .i64 0, .slice none 0 0, .slice none 0 0, .int .i64 0, .slice none 0 0, .slice none 0 0, .int .i64 0, .slice none 0 0, .slice none 0 0, .int .i64 0, .slice none 0 0, .slice none 0 0, .float .f32 0, .float .f32 0, .float .f32 0, .float .f32 0, .float .f32 0, .float .f32 0, .float .f32 0, .float .f32 0, .float .f32 0, .float .f32 0, .float .f32 0, .float .f32 0, .float .f32 0, .float .f32 0, .int .i64 0, .int .i64 0, .int .i64 0]) 49 392 Tryz.underlying22 hi hz0 hz1 hz2 rfl (by decide) _ _ _ rfl (World.ownsRow_made W #[] 0 (Nat.le_refl _) (Nat.zero_le _) rfl) ad n c (cellsG (csX X)) rfl ?qc1 ?qc2 ?qc3 ?qc4 ?qc5 (by simp) ?_)
    case qc1 => rw [cellsG_len HX.out.2.2.1, HX.out.2.1, HX.out.2.2.2.2.2.2]
    case qc2 => exact fun j u hj => Lib.cell?_alloc_some _ (HC.out j u hj)
    case qc3 => exact HX.out.2.2.2.1
    case qc4 => unfold maxLen; omega
    case qc5 => omega
    intro v' w1 hown hgrow hnil
    have HB : Hid (Below W.heap.size W w1) := Lib.hid (((Below.refl _ W).alloc (Nat.le_refl _) _).grown hgrow (by simp) (by intro k hk; simp [Value.ownBlock] at hk; omega))
    have HO := Lib.hid hown
    clear hown hgrow hnil
    go_wp2
    go_ret
    refine ⟨v', X, rfl, HX.out.1.1, ⟨?_, HX.out.2.1, HX.out.2.2.2.2.1 _ HB.out, HX.out.2.2.2.2.2.1 _⟩, HX.out.1.2.1, HB.out⟩
    rw [HX.out.2.2.2.2.2.2]
    exact HO.out


set_option maxRecDepth 100000 in
set_option maxHeartbeats 4000000 in
theorem nz_closure (C : Array Value) (g : Gd) (W : World) (hG : GdAt W C g) (he : gradeErr g = 0) : Calls Tryz.prog 12 #[.agg C] W fun e w' => e = .returned (.bool (neutB g)) ∧ Below W.heap.size W w' := by
  have HG := Lib.hid (And.intro hG he)
  clear hG he
  have hsz : (Tryz.prog.info? 46).map (·.size) = some C.size := by rw [HG.out.1.size]; exact grade_size
  go_enter Tryz.func12, Tryz.ntmps12
  go_upto_region 1 with fail
  refine name_world ?_
  intro W1 hW1
  have X1 : Hid (Bx W1 W.heap.size 46 C) := Lib.hid (by rw [hW1]; exact Bx.new W _ C)
  have HW : Hid (Below W.heap.size W W1) := Lib.hid (by rw [hW1]; exact bnew (ob := .cells C 46) (Below.refl _ _))
  obtain ⟨p1, hp1⟩ : ∃ p, W.heap.size = p := ⟨_, rfl⟩
  rw [hp1] at X1 ⊢
  clear hW1 hp1
  go_wp2_with (refine wpList_load_cells rfl 46 (.tmp 1) rfl p1 0 rfl C (fun j v hj => by rw [X1.out.all.1, Nat.zero_add]; exact hj) _ Tryz.underlying46 rfl hsz ?_)
  refine (ref_Neutral C g _ (HG.out.1.keep HW.out) HG.out.2).mono ?_
  rintro e w2 ⟨rfl, hb2⟩
  have HB := Lib.hid (bcall HW.out hb2)
  clear hb2 hsz
  go_wp2_with fail
  go_ret
  exact ⟨rfl, HB.out⟩

/-- What IndexFunc and DeleteFunc want of the grades X in the block p. -/
def OkX (w : World) (p : Nat) (X : List GX) : Prop := ∀ x ∈ X, GdAt w x.1 x.2 ∧ gradeErr x.2 = 0 ∧ ∀ (q : Nat) (v : Value), q < 8 → x.1[cvC q]? = some v → ∀ b, usedB v = some b → b ≠ p
theorem OkX.kx {a b : World} {p : Nat} {X : List GX} (h : OkX a p X) (k : Kx p a b) : OkX b p X := fun x hx => by
  obtain ⟨h1, h2, h3⟩ := h x hx
  exact ⟨h1.at fun q v hq hv c hc hl => k.block c hl (h3 q v hq hv c hc), h2, h3⟩
theorem OkX.keep {a b : World} {p : Nat} {X : List GX} (h : OkX a p X) (hb : Below a.heap.size a b) : OkX b p X := fun x hx => by
  obtain ⟨h1, h2, h3⟩ := h x hx
  exact ⟨h1.keep hb, h2, h3⟩
set_option maxRecDepth 100000 in
set_option maxHeartbeats 4000000 in
theorem index_nz (p c : Nat) (X : List GX) (R : List Value) (W : World) (hR : RwX W p X R) (hG : OkX W p X) (n : Nat) (hn : X.length = n) (hN : n ≤ 1000) :
    Calls Tryz.prog 35 #[.slice (some ⟨p, 0, none⟩) n c, .func (.func 12) #[] #[]] W fun e w' => ((∃ k : Nat, k < n ∧ e = .returned (.int .i64 (k : Int)) ∧ (∀ x, X[k]? = some x → neutB x.2 = true) ∧ ∀ (j : Nat) (x : GX), j < k → X[j]? = some x → neutB x.2 = false) ∨ (e = .returned (.int .i64 (-1)) ∧ ∀ (j : Nat) (x : GX), X[j]? = some x → neutB x.2 = false)) ∧ Below W.heap.size W w' := by
  have HR := Lib.hid (And.intro hR (And.intro hG hn))
  clear hR hG hn
  have hcf : ∀ (args : Array Value) (u : World), (callFunc 12 args).run Tryz.prog u = .ok (.enter 12 args) u := fun args u => enters Tryz.func12 (by kernel_rfl) (by kernel_rfl) _ _
  go_enter Tryz.func35, Tryz.ntmps35
  go_wp2_with fail
  go_loopw [8] (fun i wr => ∃ k : Nat, k ≤ n ∧ i = .int .i64 k ∧ Hid (Below W.heap.size W wr ∧ ∀ (j : Nat) (x : GX), j < k → X[j]? = some x → neutB x.2 = false)) (fun i _ => n - (RowKit.intOf i).toNat)
  case atStart => exact ⟨0, Nat.zero_le _, rfl, Lib.hid ⟨Below.refl _ _, fun j x hj => absurd hj (Nat.not_lt_zero _)⟩⟩
  case round =>
    obtain ⟨k, hk, rfl, HB⟩ := hrel
    by_cases hlt : k < n
    · obtain ⟨x, hx⟩ : ∃ x, X[k]? = some x := ⟨_, List.getElem?_eq_getElem (by have := HR.out.2.2; omega)⟩
      have hok := HR.out.2.1.keep HB.out.1 x (List.mem_of_getElem? hx)
      have hcl := (HR.out.1.kx HB.out.1).cell hx (q := k * 49) rfl
      have hsz : (Tryz.prog.info? 46).map (·.size) = some x.1.size := by rw [hok.1.size]; exact grade_size
      have HS := Lib.hid (And.intro hok (And.intro hcl (And.intro hsz hx)))
      have hd1 : decide ((k : Int) < (n : Int)) = true := decide_eq_true (by omega)
      clear hok hcl hsz hx
      go_wp2_with (refine wpList_load_cells rfl 46 (.tmp 14) rfl p (k * 49) rfl x.1 HS.out.2.1 _ Tryz.underlying46 rfl HS.out.2.2.1 ?_)
      refine (nz_closure x.1 x.2 _ HS.out.1.1 HS.out.1.2.1).mono ?_
      rintro e w2 ⟨rfl, hb2⟩
      have B2 := Lib.hid (bcall HB.out.1 hb2)
      clear hb2
      obtain ⟨nb, hnb⟩ : ∃ nb, neutB x.2 = nb := ⟨_, rfl⟩
      have HN := Lib.hid hnb
      rw [hnb]
      clear hnb
      cases nb
      · go_wp2_with fail
        go_roundw
        case rel =>
          refine ⟨k + 1, by omega, by go_num, Lib.hid ⟨B2.out, fun j y hj hy => ?_⟩⟩
          by_cases hjk : j = k
          · subst hjk
            rw [HS.out.2.2.2] at hy
            rw [← Option.some.inj hy]; exact HN.out
          · exact HB.out.2 j y (by omega) hy
        case measure => simp [RowKit.intOf]; omega
      · go_wp2_with fail
        go_ret
        refine ⟨.inl ⟨k, hlt, rfl, fun y hy => ?_, fun j y hj hy => HB.out.2 j y hj hy⟩, B2.out⟩
        rw [HS.out.2.2.2] at hy
        rw [← Option.some.inj hy]; exact HN.out
    · obtain rfl : k = n := by omega
      go_wp2_with fail
      go_ret
      exact ⟨.inr ⟨rfl, fun j y hy => HB.out.2 j y (by rw [← HR.out.2.2]; exact (List.getElem?_eq_some_iff.1 hy).1) hy⟩, HB.out.1⟩

def keepX (X : List GX) : List GX := X.filter fun x => !neutB x.2
theorem keepX_gs (X : List GX) : gsX (keepX X) = tidyG (gsX X) := by
  unfold keepX gsX tidyG
  rw [List.filter_map]
  rfl
set_option maxRecDepth 100000 in
set_option maxHeartbeats 8000000 in
theorem delete_nz (p c : Nat) (X : List GX) (R : List Value) (W : World) (hR : RwX W p X R) (hG : OkX W p X) (n : Nat) (hn : X.length = n) (hN : n ≤ 1000) (hcp : n ≤ c) :
    Calls Tryz.prog 10 #[.slice (some ⟨p, 0, none⟩) n c, .func (.func 12) #[] #[]] W fun e w' => ∃ m R', e = .returned (.slice (some ⟨p, 0, none⟩) m c) ∧ m = (keepX X).length ∧ m ≤ n ∧ RwX w' p (keepX X) R' ∧ R'.length + m * 49 = R.length + n * 49 ∧ Kx p W w' := by
  have hpl := hR.bx.lt
  have HR := Lib.hid (And.intro hR (And.intro hG hn))
  clear hR hG hn
  have hcf : ∀ (args : Array Value) (u : World), (callFunc 12 args).run Tryz.prog u = .ok (.enter 12 args) u := fun args u => enters Tryz.func12 (by kernel_rfl) (by kernel_rfl) _ _
  go_enter Tryz.func10, Tryz.ntmps10
  go_wp2_with fail
  refine (index_nz p c X R _ HR.out.1 HR.out.2.1 n HR.out.2.2 hN).mono ?_
  rintro e w1 ⟨⟨k, hk, rfl, hpk, hall⟩ | ⟨rfl, hall⟩, hb1⟩
  · have hne : ((k : Int) == -1) = false := beq_eq_false_iff_ne.2 (by omega)
    obtain ⟨y0, hy0⟩ : ∃ y, X[k]? = some y := ⟨_, List.getElem?_eq_getElem (by have := HR.out.2.2; omega)⟩
    have e0 : X = X.take k ++ y0 :: X.drop (k + 1) := by
      have hkl := (List.getElem?_eq_some_iff.1 hy0).1
      have h1 : X.drop k = y0 :: X.drop (k + 1) := by
        rw [List.drop_eq_getElem_cons hkl, (List.getElem?_eq_some_iff.1 hy0).2]
      rw [← h1, List.take_append_drop]
    have e1 : keepX (X.take k) = X.take k := by
      unfold keepX
      rw [List.filter_eq_self]
      intro x hx
      obtain ⟨j, hj, rfl⟩ := List.mem_iff_getElem.1 hx
      rw [List.length_take] at hj
      have := hall j X[j] (by omega) (List.getElem?_eq_getElem (by omega))
      rw [List.getElem_take, this]
      rfl
    have e2 : neutB y0.2 = true := hpk y0 hy0
    have HE := Lib.hid (And.intro e0 (And.intro e1 (And.intro e2 hb1)))
    have hl1 : p < w1.heap.size := Nat.lt_of_lt_of_le hpl hb1.size
    clear e0 e1 e2 hall hpk hy0 hb1
    go_wp2_with fail
    go_loopw [5, 6] (fun iv jv wr => ∃ (i j : Nat) (P T K J : List GX) (y : GX), iv = .int .i64 (i : Int) ∧ jv = .int .i64 (j : Int) ∧ j ≤ n ∧ i < j ∧ Hid (RwX wr p (K ++ y :: (J ++ T)) R ∧ X = P ++ T ∧ K = keepX P ∧ K.length = i ∧ P.length = j ∧ J.length + i + 1 = j ∧ Kx p W wr ∧ p < wr.heap.size)) (fun _ jv _ => n - (RowKit.intOf jv).toNat)
    case atStart =>
      have hlk : (X.take k).length = k := by have := HR.out.2.2; rw [List.length_take]; omega
      refine ⟨k, k + 1, X.take k ++ [y0], X.drop (k + 1), X.take k, [], y0, rfl, by go_num, by omega, by omega, Lib.hid ⟨?_, ?_, ?_, hlk, ?_, ?_, (Kx.refl p W).call HE.out.2.2.2, hl1⟩⟩
      · rw [List.nil_append, ← HE.out.1]; exact HR.out.1.kx HE.out.2.2.2
      · rw [List.append_assoc, List.singleton_append]; exact HE.out.1
      · unfold keepX
        rw [List.filter_append, ← keepX.eq_1, HE.out.2.1]
        simp [HE.out.2.2.1]
      · rw [List.length_append, hlk]; rfl
      · simp
    case round =>
      obtain ⟨i, j, P, T, K, J, y, rfl, rfl, hj, hij, HI⟩ := hrel
      by_cases hlt : j < n
      · have hji : decide ((j : Int) < (n : Int)) = true := decide_eq_true (by omega)
        obtain ⟨x, T2, rfl⟩ : ∃ x T2, T = x :: T2 := by
          cases T with
          | nil => exfalso; obtain ⟨_, h1, _, _, h4, _⟩ := HI.out; rw [List.append_nil] at h1; have := HR.out.2.2; rw [h1] at this; omega
          | cons x T2 => exact ⟨x, T2, rfl⟩
        have hxX : x ∈ X := by rw [HI.out.2.1]; simp
        have hok := HR.out.2.1.kx HI.out.2.2.2.2.2.2.1 x hxX
        have hxj : (K ++ y :: (J ++ x :: T2))[j]? = some x := by
          obtain ⟨_, _, _, h3, _, h5, _⟩ := HI.out
          rw [show K ++ y :: (J ++ x :: T2) = (K ++ y :: J) ++ x :: T2 by simp, List.getElem?_append_right (by simp; omega)]
          have : j - (K ++ y :: J).length = 0 := by simp; omega
          rw [this]; rfl
        have hcl := HI.out.1.cell hxj (q := j * 49) rfl
        have hsz : (Tryz.prog.info? 46).map (·.size) = some x.1.size := by rw [hok.1.size]; exact grade_size
        have hst := fun w => grade_store w hok.1.size hok.1.one
        have hcs := hok.1.size
        have HS := Lib.hid (And.intro hok (And.intro hcl hsz))
        clear hok hcl hsz hxj hxX
        go_upto_region 7 with fail
        go_upto_region 8 with (refine wpList_load_cells rfl 46 (.tmp 24) rfl p (j * 49) rfl x.1 HS.out.2.1 _ Tryz.underlying46 rfl HS.out.2.2 ?_)
        clear hst hcs
        refine name_world ?_
        intro W1 hW1
        have X5 : Hid (Bx W1 wr.heap.size 46 x.1) := Lib.hid (by rw [hW1]; exact Bx.new wr 46 x.1)
        have B1 : Hid (Below wr.heap.size wr W1) := Lib.hid (by rw [hW1]; exact bnew (ob := .cells x.1 46) (Below.refl _ _))
        have GA := Lib.hid (GdAt.keep HS.out.1.1 B1.out)
        have hp5r : p ≠ wr.heap.size := by have := HI.out.2.2.2.2.2.2.2; omega
        obtain ⟨p5, hp5⟩ : ∃ p, wr.heap.size = p := ⟨_, rfl⟩
        have HP5 := Lib.hid hp5
        rw [hp5] at X5 hp5r ⊢
        clear hW1 hp5
        go_wp2_with (refine wpList_load_cells rfl 46 (.tmp 7) rfl p5 0 rfl x.1 (fun j v hj => by rw [X5.out.all.1, Nat.zero_add]; exact hj) _ Tryz.underlying46 rfl HS.out.2.2 ?_)
        refine (nz_closure x.1 x.2 _ GA.out HS.out.1.2.1).mono ?_
        rintro e w2 ⟨rfl, hb2⟩
        have B2 : Hid (Below wr.heap.size wr w2) := Lib.hid (bcall B1.out hb2)
        have X6 := Lib.hid (X5.out.keep hb2)
        have RW := Lib.hid (HI.out.1.kx B2.out)
        clear hb2
        obtain ⟨nb, hnb⟩ : ∃ nb, neutB x.2 = nb := ⟨_, rfl⟩
        have HN := Lib.hid hnb
        rw [hnb]
        clear hnb
        cases nb
        · go_wp2_with (first | (refine wpList_load_cells rfl 46 (.tmp 7) rfl p5 0 rfl x.1 (fun j v hj => by rw [X6.out.all.1, Nat.zero_add]; exact hj) _ Tryz.underlying46 rfl HS.out.2.2 ?_) | (refine wpList_store_x rfl (.tmp 33) (.tmp 32) rfl p i (i * 49) x.1 x.2 rfl rfl RW.out (by have h3 := HI.out.2.2.2.1; rw [List.length_append, h3]; simp) rfl HS.out.1.1.size HS.out.1.1.one ?_; intro w5 hr5 hk5))
          have HR5 : Hid (RwX w5 p (K ++ x :: (J ++ x :: T2)) R ∧ Kx p W w5 ∧ p < w5.heap.size) := Lib.hid (by
            refine ⟨?_, (HI.out.2.2.2.2.2.2.1.call B2.out).trans hk5, hr5.bx.lt⟩
            have h3 := HI.out.2.2.2.1
            rw [show (K ++ y :: (J ++ x :: T2)).set i (x.1, x.2) = K ++ x :: (J ++ x :: T2) by rw [← h3, List.set_append_right _ _ (Nat.le_refl _), Nat.sub_self]; rfl] at hr5
            exact hr5)
          clear hr5 hk5
          go_wp2_with fail
          go_roundw
          case rel =>
            obtain ⟨_, h1, h2, h3, h4, h5, _, _⟩ := HI.out
            obtain ⟨r1, r2, r3⟩ := HR5.out
            have hk2 : K ++ [x] = keepX (P ++ [x]) := by
              unfold keepX
              rw [List.filter_append, ← keepX.eq_1, ← h2]
              simp [HN.out]
            cases J with
            | nil => exact ⟨i + 1, j + 1, P ++ [x], T2, K ++ [x], [], x, by go_num, by go_num, hlt, by omega, Lib.hid ⟨by simpa using r1, by rw [h1]; simp, hk2, by simp; omega, by simp; omega, by simp at h5 ⊢; omega, r2, r3⟩⟩
            | cons z J2 => exact ⟨i + 1, j + 1, P ++ [x], T2, K ++ [x], J2 ++ [x], z, by go_num, by go_num, hlt, by omega, Lib.hid ⟨by simpa using r1, by rw [h1]; simp, hk2, by simp; omega, by simp; omega, by simp at h5 ⊢; omega, r2, r3⟩⟩
          case measure => simp [RowKit.intOf] <;> omega
        · go_wp2_with fail
          go_roundw
          case rel =>
            obtain ⟨_, h1, h2, h3, h4, h5, h6, h7⟩ := HI.out
            exact ⟨i, j + 1, P ++ [x], T2, K, J ++ [x], y, rfl, by go_num, hlt, by omega, Lib.hid ⟨by simpa using RW.out, by rw [h1]; simp, by unfold keepX; rw [List.filter_append, ← keepX.eq_1, ← h2]; simp [HN.out], h3, by simp; omega, by simp; omega, h6.call B2.out, RW.out.bx.lt⟩⟩
          case measure => simp [RowKit.intOf] <;> omega
      · have hji : decide ((j : Int) < (n : Int)) = false := decide_eq_false (by omega)
        obtain rfl : j = n := by omega
        have hT : T = [] := by
          obtain ⟨_, h1, _, _, h4, _⟩ := HI.out
          have := HR.out.2.2
          rw [h1, List.length_append] at this
          exact List.length_eq_zero_iff.1 (by omega)
        subst hT
        obtain ⟨r1, h1, h2, h3, h4, h5, h6, h7⟩ := HI.out
        rw [List.append_nil] at r1 h1
        obtain ⟨w5, R5, hcl, c1, c2, c3⟩ := run_clear_x (q := i * 49) (n := j - i) (c := c - i) r1 (by rw [h3]) (by simp; omega) (by omega)
        have e5 : K = keepX X := by rw [h2, h1]
        have hic : i ≤ c := by omega
        have HW : Hid (RwX w5 p (keepX X) R5 ∧ i = (keepX X).length ∧ R5.length + i * 49 = R.length + j * 49 ∧ Kx p W w5) := Lib.hid ⟨by rw [← e5]; exact c1, by rw [← e5, h3], by rw [c2]; simp; omega, h6.trans c3⟩
        clear c1 c2 c3 e5 r1 h1 h2 h3 h4 h5 h6 h7 HI
        go_wp2_with fail
        go_ret
        exact ⟨i, R5, rfl, HW.out.2.1, by omega, HW.out.1, HW.out.2.2.1, HW.out.2.2.2⟩
  · have e1 : keepX X = X := by
      unfold keepX
      rw [List.filter_eq_self]
      intro x hx
      obtain ⟨j, hj, rfl⟩ := List.mem_iff_getElem.1 hx
      rw [hall j X[j] (List.getElem?_eq_getElem hj)]
      rfl
    have HE := Lib.hid (And.intro e1 hb1)
    clear e1 hall hb1
    go_wp2_with fail
    go_ret
    rw [HE.out.1]
    exact ⟨n, R, rfl, HR.out.2.2.symm, Nat.le_refl _, HR.out.1.kx HE.out.2, rfl, (Kx.refl p W).call HE.out.2⟩
end

section
open Go.RowKit Go.Lib

theorem GdAt.old {w : World} {C : Array Value} {g : Gd} (h : GdAt w C g) {q : Nat} {v : Value} (hq : q < 8) (hv : C[cvC q]? = some v) {b : Nat} (hb : usedB v = some b) : b < w.heap.size := by
  have hi : q / 2 < g.cvs.length := by rw [h.cvs.1]; omega
  obtain ⟨_, ⟨vx, ex, sx⟩, vy, ey, sy⟩ := h.cvs.2 (q / 2) _ (List.getElem?_eq_getElem hi)
  rcases (by omega : q % 2 = 0 ∨ q % 2 = 1) with hm | hm
  · rw [show cvC q = 21 + 3 * (q / 2) by unfold cvC; omega, ex] at hv
    rw [← Option.some.inj hv] at hb
    exact usedB_sl sx hb
  · rw [show cvC q = 22 + 3 * (q / 2) by unfold cvC; omega, ey] at hv
    rw [← Option.some.inj hv] at hb
    exact usedB_sl sy hb
set_option maxRecDepth 100000 in
theorem index_nil (W : World) : Calls Tryz.prog 35 #[.slice none 0 0, .func (.func 12) #[] #[]] W fun e w' => e = .returned (.int .i64 (-1)) ∧ W = w' := by
  go_enter Tryz.func35, Tryz.ntmps35
  go_wp2_with fail
  go_loopw [8] (fun i wr => i = .int .i64 0 ∧ wr = W) (fun _ _ => 0)
  case atStart => exact ⟨rfl, by trivial⟩
  case round =>
    obtain ⟨rfl, rfl⟩ := hrel
    go_wp2_with fail
    go_ret
    exact ⟨rfl, rfl⟩
set_option maxRecDepth 100000 in
theorem delete_nil (W : World) : Calls Tryz.prog 10 #[.slice none 0 0, .func (.func 12) #[] #[]] W fun e w' => e = .returned (.slice none 0 0) ∧ W = w' := by
  go_enter Tryz.func10, Tryz.ntmps10
  go_wp2_with (go_at_call 35; refine (index_nil _).mono ?_; rintro e w' ⟨rfl, rfl⟩)
  go_ret
  exact ⟨rfl, rfl⟩
theorem delete_own (v2 : Value) (X : List GX) (W0 W : World) (ho : OwnGr W0.heap.size W v2 (csX X) (gsX X)) (hb : Below W0.heap.size W0 W) (hg : ∀ x ∈ X, GdAt W0 x.1 x.2 ∧ gradeErr x.2 = 0) (hN : X.length ≤ 1000) :
    Calls Tryz.prog 10 #[v2, .func (.func 12) #[] #[]] W fun e w' => ∃ v3, e = .returned v3 ∧ SlG w' v3 (tidyG (gsX X)) ∧ Below W0.heap.size W0 w' := by
  have hlen : (gsX X).length = X.length := by simp [gsX]
  rcases ho.own.2 with ⟨rfl, h0⟩ | ⟨p, c, cur, rfl, hp, hx, hnc, hcm, hsz, htake⟩
  · have hX : X = [] := List.length_eq_zero_iff.1 (by omega)
    subst hX
    refine (delete_nil W).mono ?_
    rintro e w' ⟨rfl, rfl⟩
    exact ⟨_, rfl, ⟨none, 0, rfl, Nat.zero_le _, Nat.zero_le _, .inl rfl⟩, hb⟩
  · rw [hlen] at hnc htake ⊢
    have hR : RwX W p X (cur.toList.drop (X.length * 49)) := by
      refine ⟨?_, fun x hx => (hg x hx).1.size⟩
      have e : (cellsG (csX X) ++ cur.toList.drop (X.length * 49)).toArray = cur := by
        rw [← htake, List.take_append_drop, Array.toArray_toList]
      rw [e]
      exact hx
    have hok : OkX W p X := fun x hx => by
      refine ⟨(hg x hx).1.keep hb, (hg x hx).2, fun q v hq hv b hbb => ?_⟩
      have := (hg x hx).1.old hq hv hbb
      omega
    refine (delete_nz p c X _ W hR hok X.length rfl hN hnc).mono ?_
    rintro e w' ⟨m, R', rfl, hm, hmn, hR', _, hk⟩
    have hok' := hok.kx hk
    have hl : (tidyG (gsX X)).length = m := by rw [← keepX_gs, hm]; simp [gsX]
    refine ⟨_, rfl, ⟨some ⟨p, 0, none⟩, c, by rw [hl], by omega, hcm, .inr ⟨p, 0, rfl, hR'.bx.lt, fun k g hg2 => ?_⟩⟩, below_kx hb hk hp hb.size⟩
    rw [← keepX_gs] at hg2
    obtain ⟨x, hx2, rfl⟩ : ∃ x, (keepX X)[k]? = some x ∧ x.2 = g := by
      unfold gsX at hg2
      rw [List.getElem?_map] at hg2
      cases h : (keepX X)[k]? with
      | none => rw [h] at hg2; cases hg2
      | some x => rw [h] at hg2; exact ⟨x, rfl, by simpa using hg2⟩
    have hmem : x ∈ X := (List.mem_filter.1 (List.mem_of_getElem? hx2)).1
    exact ⟨x.1, (hok' x hmem).1, fun j v hj => by rw [Nat.zero_add]; exact hR'.cell hx2 rfl j v hj⟩
end
end Go.Proofs.YticekgnmiaidjaaGreatDoor
