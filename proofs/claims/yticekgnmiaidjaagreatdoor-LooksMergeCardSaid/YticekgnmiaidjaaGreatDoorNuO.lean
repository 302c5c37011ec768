/- slices.DeleteFunc of what slices.Clone gave. (printed by gen_nuo.py) -/
import Derived.Test.YticekgnmiaidjaaGreatDoorNuE
import Derived.Test.YticekgnmiaidjaaGreatDoorNuA
import Derived.Test.YticekgnmiaidjaaGreatDoorGnF
import Derived.Test.YticekgnmiaidjaaGreatDoorGlA
import Derived.Lib.SliceRun
import Derived.Deep.Slices
namespace Go.Proofs.YticekgnmiaidjaaGreatDoor

section
open Go.RowKit Go.Lib Go.Deep Go.WideShapes Go.ChangeShapes

abbrev GX := Array Value × Gd
def csX (X : List GX) : List (Array Value) := X.map (·.1)
def gsX (X : List GX) : List Gd := X.map (·.2)
theorem cellsG_cons (D : Array Value) (Cs : List (Array Value)) : cellsG (D :: Cs) = D.toList ++ cellsG Cs := List.flatMap_cons
/-- The block p holds the cells of X, then R. -/
structure RwX (w : World) (p : Nat) (X : List GX) (R : List Value) : Prop where
  bx : Bx w p 46 (cellsG (csX X) ++ R).toArray
  sz : ∀ x ∈ X, x.1.size = 49
theorem RwX.szC {w : World} {p : Nat} {X : List GX} {R : List Value} (h : RwX w p X R) : ∀ C ∈ csX X, C.size = 49 := fun C hC => by
  obtain ⟨x, hx, rfl⟩ := List.mem_map.1 hC
  exact h.sz x hx
theorem RwX.len {w : World} {p : Nat} {X : List GX} {R : List Value} (h : RwX w p X R) : (cellsG (csX X)).length = X.length * 49 := by
  rw [cellsG_len h.szC]; simp [csX]
theorem RwX.cell {w : World} {p : Nat} {X : List GX} {R : List Value} (h : RwX w p X R) {k : Nat} {x : GX} (hk : X[k]? = some x) {q : Nat} (hq : q = k * 49) : ∀ (j : Nat) (v : Value), x.1[j]? = some v → w.cell? ⟨p, q + j, none⟩ = some v := fun j v hj => by
  have hs := h.sz x (List.mem_of_getElem? hk)
  have hj49 : j < 49 := by rw [← hs]; exact (Array.getElem?_eq_some_iff.1 hj).1
  have hkl := (List.getElem?_eq_some_iff.1 hk).1
  subst hq
  rw [h.bx.all.1, List.getElem?_toArray, List.getElem?_append_left (by rw [h.len]; omega), cellsG_get h.szC (C := x.1) (by simp [csX, hk]) j hj49, hj]
theorem RwX.kx {w w' : World} {p : Nat} {X : List GX} {R : List Value} (h : RwX w p X R) (hb : Below w.heap.size w w') : RwX w' p X R := ⟨h.bx.keep hb, h.sz⟩
/-- The cells of grades that lie behind each other. -/
theorem GlAt.cells {w : World} {b o : Nat} {gs : List Gd} (h : GlAt w b o gs) : ∃ X : List GX, gsX X = gs ∧ (∀ x ∈ X, GdAt w x.1 x.2) ∧ ∀ (k : Nat) (x : GX), X[k]? = some x → ∀ (j : Nat) (v : Value), x.1[j]? = some v → w.cell? ⟨b, o + k * 49 + j, none⟩ = some v := by
  haveI : Inhabited GX := ⟨(#[], ⟨0, [], [], [], [], 0, 0, []⟩)⟩
  have hb : ∀ k, k < gs.length → ∃ x : GX, gs[k]? = some x.2 ∧ GdAt w x.1 x.2 ∧ ∀ (j : Nat) (v : Value), x.1[j]? = some v → w.cell? ⟨b, o + k * 49 + j, none⟩ = some v := fun k hk => by
    obtain ⟨C, h1, h2⟩ := h k gs[k] (List.getElem?_eq_getElem hk)
    exact ⟨(C, gs[k]), List.getElem?_eq_getElem hk, h1, h2⟩
  obtain ⟨F, hF⟩ := choose_lt (α := GX) (p := fun k x => gs[k]? = some x.2 ∧ GdAt w x.1 x.2 ∧ ∀ (j : Nat) (v : Value), x.1[j]? = some v → w.cell? ⟨b, o + k * 49 + j, none⟩ = some v) hb
  refine ⟨(List.range gs.length).map F, ?_, fun x hx => ?_, fun k x hk => ?_⟩
  · apply List.ext_getElem?
    intro k
    by_cases hk : k < gs.length
    · have := (hF k hk).1
      rw [this]
      simp [gsX, hk]
    · rw [List.getElem?_eq_none (show gs.length ≤ k by omega), List.getElem?_eq_none (by simp [gsX]; omega)]
  · obtain ⟨k, hk, rfl⟩ := List.mem_map.1 hx
    exact (hF k (List.mem_range.1 hk)).2.1
  · have hkl : k < gs.length := by
      have := (List.getElem?_eq_some_iff.1 hk).1
      simpa using this
    have e : F k = x := by simpa [hkl] using hk
    rw [← e]
    exact (hF k hkl).2.2
theorem cellsG_at {w : World} {b o : Nat} {X : List GX} (hs : ∀ x ∈ X, x.1.size = 49) (h : ∀ (k : Nat) (x : GX), X[k]? = some x → ∀ (j : Nat) (v : Value), x.1[j]? = some v → w.cell? ⟨b, o + k * 49 + j, none⟩ = some v) : ∀ (j : Nat) (v : Value), (cellsG (csX X))[j]? = some v → w.cell? ⟨b, o + j, none⟩ = some v := fun j v hj => by
  have hsC : ∀ C ∈ csX X, C.size = 49 := fun C hC => by
    obtain ⟨x, hx, rfl⟩ := List.mem_map.1 hC
    exact hs x hx
  have hl := (List.getElem?_eq_some_iff.1 hj).1
  rw [cellsG_len hsC] at hl
  have hlx : (csX X).length = X.length := by simp [csX]
  rw [hlx] at hl
  have hk : j / 49 < X.length := by omega
  have e := cellsG_get hsC (k := j / 49) (C := X[j / 49].1) (by simp [csX, hk]) (j % 49) (by omega)
  rw [show j / 49 * 49 + j % 49 = j by omega, hj] at e
  have := h (j / 49) _ (List.getElem?_eq_getElem hk) (j % 49) v e.symm
  rw [show o + j / 49 * 49 + j % 49 = o + j by omega] at this
  exact this
set_option maxRecDepth 100000 in
set_option maxHeartbeats 4000000 in
theorem sl_CloneG (v : Value) (gs : List Gd) (W : World) (h : SlG W v gs) (hn : gs.length ≤ 1000) :
    Calls Tryz.prog 11 #[v] W fun e w' => ∃ v' X, e = .returned v' ∧ gsX X = gs ∧ OwnGr W.heap.size w' v' (csX X) gs ∧ (∀ x ∈ X, GdAt W x.1 x.2) ∧ Below W.heap.size W w' := by
  obtain ⟨i0, hi, hz0, hz1, hz2⟩ := info_parts infoGr
  have q22 : ∀ (w : World) (a : Option Addr) (n c n' c' : Nat), (binOp .eql 22 (.slice a n c) (.slice none n' c')).run Tryz.prog w = .ok (.bool a.isNone) w := fun w a n c n' c' => Lib.run_eql_slice_nil w _ _ a n c n' c' Tryz.underlying22
  obtain ⟨a, c, rfl, _, _, hrow⟩ := h
  obtain ⟨X, hX⟩ : ∃ X : List GX, gsX X = gs ∧ (∀ x ∈ X, GdAt W x.1 x.2) ∧ (gs = [] ∨ ∃ b o, a = some ⟨b, o, none⟩ ∧ ∀ (j : Nat) (v : Value), (cellsG (csX X))[j]? = some v → W.cell? ⟨b, o + j, none⟩ = some v) := by
    rcases hrow with rfl | ⟨b, o, rfl, _, hG⟩
    · exact ⟨[], rfl, (fun x hx => by cases hx), .inl rfl⟩
    · obtain ⟨X, h1, h2, h3⟩ := hG.cells
      exact ⟨X, h1, h2, .inr ⟨b, o, rfl, cellsG_at (fun x hx => (h2 x hx).size) h3⟩⟩
  have hlX : (csX X).length = gs.length := by rw [← hX.1]; simp [csX, gsX]
  have hszX : ∀ C ∈ csX X, C.size = 49 := fun C hC => by
    obtain ⟨x, hx, rfl⟩ := List.mem_map.1 hC
    exact (hX.2.1 x hx).size
  have hone : ∀ u ∈ cellsG (csX X), u.oneCell' = true := fun u hu => by
    obtain ⟨C, hC, hm⟩ := List.mem_flatMap.1 hu
    obtain ⟨x, hx, rfl⟩ := List.mem_map.1 hC
    exact (Array.all_eq_true_iff_forall_mem.1 (hX.2.1 x hx).one) u (by simpa using hm)
  have hgdX : ∀ (w' : World), Below W.heap.size W w' → ∀ (k : Nat) (C : Array Value) (g : Gd), (csX X)[k]? = some C → gs[k]? = some g → GdAt w' C g := fun w' hb k C g hC hg => by
    rw [← hX.1] at hg
    have hk : k < X.length := by have := (List.getElem?_eq_some_iff.1 hC).1; simpa [csX] using this
    have e1 : X[k].1 = C := by simpa [csX, hk] using hC
    have e2 : X[k].2 = g := by simpa [gsX, hk] using hg
    rw [← e1, ← e2]
    exact (hX.2.1 _ (List.getElem_mem hk)).keep hb
  have hcvX : ∀ (w' : World), ∀ C ∈ csX X, CvOk W.heap.size w' C := fun w' C hC => by
    obtain ⟨x, hx, rfl⟩ := List.mem_map.1 hC
    exact (hX.2.1 x hx).cvok (Nat.le_refl _) w'
  obtain ⟨n, hnn⟩ : ∃ n, gs.length = n := ⟨_, rfl⟩
  have HX := Lib.hid (And.intro hX (And.intro hlX (And.intro hszX (And.intro hone (And.intro hgdX (And.intro hcvX hnn))))))
  rw [hnn] at hn ⊢
  clear hX hlX hszX hone hgdX hcvX hnn hrow
  cases a with
  | none =>
    have h0 : gs = [] := by
      rcases HX.out.1.2.2 with h | ⟨b, o, h, _⟩
      · exact h
      · cases h
    have hX0 : X = [] := by
      have := HX.out.2.1
      rw [h0] at this
      exact List.length_eq_zero_iff.1 (by simpa [csX] using this)
    have H0 := Lib.hid (And.intro h0 hX0)
    clear h0 hX0
    go_enter Tryz.func11, Tryz.ntmps11
    go_wp2_with fail
    go_ret
    refine ⟨_, rfl, X, HX.out.1.1, ?_, fun a b h => HX.out.1.2.1 (a, b) h, Below.refl _ _⟩
    rw [H0.out.1, H0.out.2]
    exact OwnGr.nil _ _
  | some ad =>
    have hcel : ∀ (j : Nat) (v : Value), (cellsG (csX X))[j]? = some v → W.cell? (ad.add j) = some v := fun j v hj => by
      rcases HX.out.1.2.2 with h | ⟨b, o, h, h2⟩
      · have := HX.out.2.1
        rw [h] at this
        rw [List.length_eq_zero_iff.1 this] at hj
        simp [cellsG] at hj
      · cases h
        rw [add_none]
        exact h2 j v hj
    have HC := Lib.hid hcel
    clear hcel
    go_enter Tryz.func11, Tryz.ntmps11
    go_wp2_with (at_builtin; refine wpList_append_own _ rfl _ _ 22 rfl W.heap.size 46 i0 (.agg #[.int .i64 0, .float .f32 0, .float .f32 0, .float .f32 0, .float .f32 0, .float .f32 0, .float .f32 0, .float .f32 0, .float .f32 0, .float .f32 0, .float .f32 0, .float .f32 0, .float .f32 0, .float .f32 0, .float .f32 0, .float .f32 0, .float .f32 0, .float .f32 0, .float .f32 0, .float .f32 0, .int .i64 0, .slice none 0 0, .slice none 0 0, .int .i64 0, .slice none 0 0, .slice none 0 0, .int .i64 0, .slice none 0 0, .slice none 0 0, .int .i64 0, .slice none 0 0, .slice none 0 0, .float .f32 0, .float .f32 0, .float .f32 0, .float .f32 0, .float .f32 0, .float .f32 0, .float .f32 0, .float .f32 0, .float .f32 0, .float .f32 0, .float .f32 0, .float .f32 0, .float .f32 0, .float .f32 0, .int .i64 0, .int .i64 0, .int .i64 0]) 49 392 Tryz.underlying22 hi hz0 hz1 hz2 rfl (by decide) _ _ _ rfl (World.ownsRow_made W #[] 0 (Nat.le_refl _) (Nat.zero_le _) rfl) ad n c (cellsG (csX X)) rfl ?qc1 ?qc2 ?qc3 ?qc4 ?qc5 (by simp) ?_)
    case qc1 => rw [cellsG_len HX.out.2.2.1, HX.out.2.1, HX.out.2.2.2.2.2.2]
    case qc2 => exact fun j u hj => Lib.cell?_alloc_some _ (HC.out j u hj)
    case qc3 => exact HX.out.2.2.2.1
    case qc4 => unfold maxLen; omega
    case qc5 => omega
    intro v' w1 hown hgrow hnil
    have HB : Hid (Below W.heap.size W w1) := Lib.hid (((Below.refl _ W).alloc (Nat.le_refl _) _).grown hgrow (by simp) (by intro k hk; simp [Value.ownBlock] at hk; omega))
    have HO := Lib.hid hown
    clear hown hgrow hnil
    go_wp2
    go_ret
    refine ⟨v', X, rfl, HX.out.1.1, ⟨?_, HX.out.2.1, HX.out.2.2.2.2.1 _ HB.out, HX.out.2.2.2.2.2.1 _⟩, HX.out.1.2.1, HB.out⟩
    rw [HX.out.2.2.2.2.2.2]
    exact HO.out


/-- What IndexFunc and DeleteFunc want of the grades X in the block p. -/
def OkX (w : World) (p : Nat) (X : List GX) : Prop := ∀ x ∈ X, GdAt w x.1 x.2 ∧ gradeErr x.2 = 0 ∧ ∀ (q : Nat) (v : Value), q < 8 → x.1[cvC q]? = some v → ∀ b, usedB v = some b → b ≠ p
theorem OkX.kx {a b : World} {p : Nat} {X : List GX} (h : OkX a p X) (k : Kx p a b) : OkX b p X := fun x hx => by
  obtain ⟨h1, h2, h3⟩ := h x hx
  exact ⟨h1.at fun q v hq hv c hc hl => k.block c hl (h3 q v hq hv c hc), h2, h3⟩
theorem OkX.keep {a b : World} {p : Nat} {X : List GX} (h : OkX a p X) (hb : Below a.heap.size a b) : OkX b p X := fun x hx => by
  obtain ⟨h1, h2, h3⟩ := h x hx
  exact ⟨h1.keep hb, h2, h3⟩
end

section
open Go.RowKit Go.Lib

theorem GdAt.old {w : World} {C : Array Value} {g : Gd} (h : GdAt w C g) {q : Nat} {v : Value} (hq : q < 8) (hv : C[cvC q]? = some v) {b : Nat} (hb : usedB v = some b) : b < w.heap.size := by
  have hi : q / 2 < g.cvs.length := by rw [h.cvs.1]; omega
  obtain ⟨_, ⟨vx, ex, sx⟩, vy, ey, sy⟩ := h.cvs.2 (q / 2) _ (List.getElem?_eq_getElem hi)
  rcases (by omega : q % 2 = 0 ∨ q % 2 = 1) with hm | hm
  · rw [show cvC q = 21 + 3 * (q / 2) by unfold cvC; omega, ex] at hv
    rw [← Option.some.inj hv] at hb
    exact usedB_sl sx hb
  · rw [show cvC q = 22 + 3 * (q / 2) by unfold cvC; omega, ey] at hv
    rw [← Option.some.inj hv] at hb
    exact usedB_sl sy hb
end
end Go.Proofs.YticekgnmiaidjaaGreatDoor
