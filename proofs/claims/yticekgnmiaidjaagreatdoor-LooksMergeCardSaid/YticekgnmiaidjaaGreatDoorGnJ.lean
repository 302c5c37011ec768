/- dyeref1.GradeError: gradeErr. (printed by gen_gni.py) -/
import Derived.Test.YticekgnmiaidjaaGreatDoorGnH
namespace Go.Proofs.YticekgnmiaidjaaGreatDoor

section
open Go.RowKit Go.Lib

def putsAt (C : Array Value) : Nat → List Value → Array Value
  | _, [] => C
  | f, v :: vs => putsAt (C.setIfInBounds f v) (f + 1) vs
theorem putsAt_size (vs : List Value) : ∀ (C : Array Value) (f : Nat), (putsAt C f vs).size = C.size := by
  induction vs with
  | nil => intro C f; rfl
  | cons v vs ih => intro C f; show (putsAt (C.setIfInBounds f v) (f + 1) vs).size = _; rw [ih]; simp
theorem putsAt_get (vs : List Value) : ∀ (C : Array Value) (f j : Nat), f + vs.length ≤ C.size → (putsAt C f vs)[j]? = if f ≤ j ∧ j < f + vs.length then vs[j - f]? else C[j]? := by
  induction vs with
  | nil => intro C f j _; rw [if_neg (by simp only [List.length_nil]; omega)]; rfl
  | cons v vs ih =>
    intro C f j h
    simp only [List.length_cons] at h ⊢
    show (putsAt (C.setIfInBounds f v) (f + 1) vs)[j]? = _
    rw [ih _ _ _ (by simp; omega)]
    by_cases h1 : f + 1 ≤ j ∧ j < f + 1 + vs.length
    · rw [if_pos h1, if_pos (by omega), show j - f = (j - (f + 1)) + 1 by omega, List.getElem?_cons_succ]
    · rw [if_neg h1]
      by_cases h2 : j = f
      · subst h2
        rw [if_pos (by omega), Nat.sub_self, List.getElem?_cons_zero, Array.getElem?_setIfInBounds_self_of_lt (by omega)]
      · rw [if_neg (by omega), Array.getElem?_setIfInBounds_ne (Ne.symm h2)]
theorem all_of_get {C : Array Value} {p : Value → Bool} : C.all p = true ↔ ∀ (j : Nat) (v : Value), C[j]? = some v → p v = true := by
  rw [Array.all_eq_true]
  constructor
  · intro h j v hv
    obtain ⟨hj, rfl⟩ := Array.getElem?_eq_some_iff.1 hv
    exact h j hj
  · intro h j hj
    exact h j _ (Array.getElem?_eq_getElem hj)
theorem putsAt_all {C : Array Value} {p : Value → Bool} {vs : List Value} {f : Nat} (hf : f + vs.length ≤ C.size) (h : C.all p = true) (hv : ∀ v ∈ vs, p v = true) : (putsAt C f vs).all p = true := by
  rw [all_of_get] at h ⊢
  intro j v hj
  rw [putsAt_get vs C f j hf] at hj
  split at hj
  · exact hv v (List.mem_of_getElem? hj)
  · exact h j v hj
theorem GdAt.zkind {w : World} {C : Array Value} {g : Gd} (h : GdAt w C g) : GdAt w (putsAt C 0 [.int .i64 0]) { g with kind := 0 } := by
  have hs := h.size
  have hf : 0 + ([.int .i64 0] : List Value).length ≤ C.size := by rw [hs]; simp; try omega
  have hL : ([.int .i64 0] : List Value).length = 1 := by simp
  have G := fun jj => putsAt_get [.int .i64 0] C (0) jj hf
  rw [hL] at G
  refine ⟨by rw [putsAt_size]; exact hs, putsAt_all hf h.one (fun v hv => by simp only [List.mem_singleton] at hv; subst hv; rfl), ?_, ?_, ?_, ?_, ?_, ?_, ?_, ?_⟩
  · exact by rw [G 0, if_pos (by omega)]; rfl
  · exact ⟨h.whe.1, fun i hi => by rw [G (1 + i), if_neg (by omega)]; exact h.whe.2 i hi⟩
  · exact ⟨h.lst.1, fun i hi => by rw [G (10 + i), if_neg (by omega)]; exact h.lst.2 i hi⟩
  · exact ⟨h.cvs.1, fun i c hc => by
      have hi : i < 4 := by have := (List.getElem?_eq_some_iff.1 hc).1; rw [h.cvs.1] at this; exact this
      obtain ⟨a, ⟨vx, b, s⟩, vy, d, s2⟩ := h.cvs.2 i c hc
      exact ⟨by rw [G (20 + 3 * i), if_neg (by omega)]; exact a, ⟨vx, by rw [G (21 + 3 * i), if_neg (by omega)]; exact b, s⟩, vy, by rw [G (22 + 3 * i), if_neg (by omega)]; exact d, s2⟩⟩
  · exact ⟨h.mix.1, fun i hi => by rw [G (32 + i), if_neg (by omega)]; exact h.mix.2 i hi⟩
  · exact by rw [G 44, if_neg (by omega)]; exact h.piv
  · exact by rw [G 45, if_neg (by omega)]; exact h.amt
  · exact ⟨h.pts.1, fun i hi => by rw [G (46 + i), if_neg (by omega)]; exact h.pts.2 i hi⟩
theorem GdAt.zwhe {w : World} {C : Array Value} {g : Gd} (h : GdAt w C g) : GdAt w (putsAt C 1 [.float .f32 0, .float .f32 0, .float .f32 0, .float .f32 0, .float .f32 0, .float .f32 0, .float .f32 0, .float .f32 0, .float .f32 0]) { g with whe := List.replicate 9 0 } := by
  have hs := h.size
  have hf : 1 + ([.float .f32 0, .float .f32 0, .float .f32 0, .float .f32 0, .float .f32 0, .float .f32 0, .float .f32 0, .float .f32 0, .float .f32 0] : List Value).length ≤ C.size := by rw [hs]; simp; try omega
  have hL : ([.float .f32 0, .float .f32 0, .float .f32 0, .float .f32 0, .float .f32 0, .float .f32 0, .float .f32 0, .float .f32 0, .float .f32 0] : List Value).length = 9 := by simp
  have G := fun jj => putsAt_get [.float .f32 0, .float .f32 0, .float .f32 0, .float .f32 0, .float .f32 0, .float .f32 0, .float .f32 0, .float .f32 0, .float .f32 0] C (1) jj hf
  rw [hL] at G
  refine ⟨by rw [putsAt_size]; exact hs, putsAt_all hf h.one (fun v hv => by simp only [List.mem_cons, List.not_mem_nil, or_false, or_self] at hv; subst hv; rfl), ?_, ?_, ?_, ?_, ?_, ?_, ?_, ?_⟩
  · exact by rw [G 0, if_neg (by omega)]; exact h.kind
  · exact ⟨by simp, fun i hi => by rw [G (1 + i), if_pos (by omega)]; rcases (by omega : i = 0 ∨ i = 1 ∨ i = 2 ∨ i = 3 ∨ i = 4 ∨ i = 5 ∨ i = 6 ∨ i = 7 ∨ i = 8) with rfl | rfl | rfl | rfl | rfl | rfl | rfl | rfl | rfl <;> rfl⟩
  · exact ⟨h.lst.1, fun i hi => by rw [G (10 + i), if_neg (by omega)]; exact h.lst.2 i hi⟩
  · exact ⟨h.cvs.1, fun i c hc => by
      have hi : i < 4 := by have := (List.getElem?_eq_some_iff.1 hc).1; rw [h.cvs.1] at this; exact this
      obtain ⟨a, ⟨vx, b, s⟩, vy, d, s2⟩ := h.cvs.2 i c hc
      exact ⟨by rw [G (20 + 3 * i), if_neg (by omega)]; exact a, ⟨vx, by rw [G (21 + 3 * i), if_neg (by omega)]; exact b, s⟩, vy, by rw [G (22 + 3 * i), if_neg (by omega)]; exact d, s2⟩⟩
  · exact ⟨h.mix.1, fun i hi => by rw [G (32 + i), if_neg (by omega)]; exact h.mix.2 i hi⟩
  · exact by rw [G 44, if_neg (by omega)]; exact h.piv
  · exact by rw [G 45, if_neg (by omega)]; exact h.amt
  · exact ⟨h.pts.1, fun i hi => by rw [G (46 + i), if_neg (by omega)]; exact h.pts.2 i hi⟩
theorem GdAt.zlst {w : World} {C : Array Value} {g : Gd} (h : GdAt w C g) : GdAt w (putsAt C 10 [.float .f32 0, .float .f32 0, .float .f32 0, .float .f32 0, .float .f32 0, .float .f32 0, .float .f32 0, .float .f32 0, .float .f32 0, .float .f32 0]) { g with lst := List.replicate 10 0 } := by
  have hs := h.size
  have hf : 10 + ([.float .f32 0, .float .f32 0, .float .f32 0, .float .f32 0, .float .f32 0, .float .f32 0, .float .f32 0, .float .f32 0, .float .f32 0, .float .f32 0] : List Value).length ≤ C.size := by rw [hs]; simp; try omega
  have hL : ([.float .f32 0, .float .f32 0, .float .f32 0, .float .f32 0, .float .f32 0, .float .f32 0, .float .f32 0, .float .f32 0, .float .f32 0, .float .f32 0] : List Value).length = 10 := by simp
  have G := fun jj => putsAt_get [.float .f32 0, .float .f32 0, .float .f32 0, .float .f32 0, .float .f32 0, .float .f32 0, .float .f32 0, .float .f32 0, .float .f32 0, .float .f32 0] C (10) jj hf
  rw [hL] at G
  refine ⟨by rw [putsAt_size]; exact hs, putsAt_all hf h.one (fun v hv => by simp only [List.mem_cons, List.not_mem_nil, or_false, or_self] at hv; subst hv; rfl), ?_, ?_, ?_, ?_, ?_, ?_, ?_, ?_⟩
  · exact by rw [G 0, if_neg (by omega)]; exact h.kind
  · exact ⟨h.whe.1, fun i hi => by rw [G (1 + i), if_neg (by omega)]; exact h.whe.2 i hi⟩
  · exact ⟨by simp, fun i hi => by rw [G (10 + i), if_pos (by omega)]; rcases (by omega : i = 0 ∨ i = 1 ∨ i = 2 ∨ i = 3 ∨ i = 4 ∨ i = 5 ∨ i = 6 ∨ i = 7 ∨ i = 8 ∨ i = 9) with rfl | rfl | rfl | rfl | rfl | rfl | rfl | rfl | rfl | rfl <;> rfl⟩
  · exact ⟨h.cvs.1, fun i c hc => by
      have hi : i < 4 := by have := (List.getElem?_eq_some_iff.1 hc).1; rw [h.cvs.1] at this; exact this
      obtain ⟨a, ⟨vx, b, s⟩, vy, d, s2⟩ := h.cvs.2 i c hc
      exact ⟨by rw [G (20 + 3 * i), if_neg (by omega)]; exact a, ⟨vx, by rw [G (21 + 3 * i), if_neg (by omega)]; exact b, s⟩, vy, by rw [G (22 + 3 * i), if_neg (by omega)]; exact d, s2⟩⟩
  · exact ⟨h.mix.1, fun i hi => by rw [G (32 + i), if_neg (by omega)]; exact h.mix.2 i hi⟩
  · exact by rw [G 44, if_neg (by omega)]; exact h.piv
  · exact by rw [G 45, if_neg (by omega)]; exact h.amt
  · exact ⟨h.pts.1, fun i hi => by rw [G (46 + i), if_neg (by omega)]; exact h.pts.2 i hi⟩
theorem GdAt.zmix {w : World} {C : Array Value} {g : Gd} (h : GdAt w C g) : GdAt w (putsAt C 32 [.float .f32 0, .float .f32 0, .float .f32 0, .float .f32 0, .float .f32 0, .float .f32 0, .float .f32 0, .float .f32 0, .float .f32 0, .float .f32 0, .float .f32 0, .float .f32 0]) { g with mix := List.replicate 12 0 } := by
  have hs := h.size
  have hf : 32 + ([.float .f32 0, .float .f32 0, .float .f32 0, .float .f32 0, .float .f32 0, .float .f32 0, .float .f32 0, .float .f32 0, .float .f32 0, .float .f32 0, .float .f32 0, .float .f32 0] : List Value).length ≤ C.size := by rw [hs]; simp; try omega
  have hL : ([.float .f32 0, .float .f32 0, .float .f32 0, .float .f32 0, .float .f32 0, .float .f32 0, .float .f32 0, .float .f32 0, .float .f32 0, .float .f32 0, .float .f32 0, .float .f32 0] : List Value).length = 12 := by simp
  have G := fun jj => putsAt_get [.float .f32 0, .float .f32 0, .float .f32 0, .float .f32 0, .float .f32 0, .float .f32 0, .float .f32 0, .float .f32 0, .float .f32 0, .float .f32 0, .float .f32 0, .float .f32 0] C (32) jj hf
  rw [hL] at G
  refine ⟨by rw [putsAt_size]; exact hs, putsAt_all hf h.one (fun v hv => by simp only [List.mem_cons, List.not_mem_nil, or_false, or_self] at hv; subst hv; rfl), ?_, ?_, ?_, ?_, ?_, ?_, ?_, ?_⟩
  · exact by rw [G 0, if_neg (by omega)]; exact h.kind
  · exact ⟨h.whe.1, fun i hi => by rw [G (1 + i), if_neg (by omega)]; exact h.whe.2 i hi⟩
  · exact ⟨h.lst.1, fun i hi => by rw [G (10 + i), if_neg (by omega)]; exact h.lst.2 i hi⟩
  · exact ⟨h.cvs.1, fun i c hc => by
      have hi : i < 4 := by have := (List.getElem?_eq_some_iff.1 hc).1; rw [h.cvs.1] at this; exact this
      obtain ⟨a, ⟨vx, b, s⟩, vy, d, s2⟩ := h.cvs.2 i c hc
      exact ⟨by rw [G (20 + 3 * i), if_neg (by omega)]; exact a, ⟨vx, by rw [G (21 + 3 * i), if_neg (by omega)]; exact b, s⟩, vy, by rw [G (22 + 3 * i), if_neg (by omega)]; exact d, s2⟩⟩
  · exact ⟨by simp, fun i hi => by rw [G (32 + i), if_pos (by omega)]; rcases (by omega : i = 0 ∨ i = 1 ∨ i = 2 ∨ i = 3 ∨ i = 4 ∨ i = 5 ∨ i = 6 ∨ i = 7 ∨ i = 8 ∨ i = 9 ∨ i = 10 ∨ i = 11) with rfl | rfl | rfl | rfl | rfl | rfl | rfl | rfl | rfl | rfl | rfl | rfl <;> rfl⟩
  · exact by rw [G 44, if_neg (by omega)]; exact h.piv
  · exact by rw [G 45, if_neg (by omega)]; exact h.amt
  · exact ⟨h.pts.1, fun i hi => by rw [G (46 + i), if_neg (by omega)]; exact h.pts.2 i hi⟩
theorem GdAt.zpts {w : World} {C : Array Value} {g : Gd} (h : GdAt w C g) : GdAt w (putsAt C 46 [.int .i64 0, .int .i64 0, .int .i64 0]) { g with pts := List.replicate 3 0 } := by
  have hs := h.size
  have hf : 46 + ([.int .i64 0, .int .i64 0, .int .i64 0] : List Value).length ≤ C.size := by rw [hs]; simp; try omega
  have hL : ([.int .i64 0, .int .i64 0, .int .i64 0] : List Value).length = 3 := by simp
  have G := fun jj => putsAt_get [.int .i64 0, .int .i64 0, .int .i64 0] C (46) jj hf
  rw [hL] at G
  refine ⟨by rw [putsAt_size]; exact hs, putsAt_all hf h.one (fun v hv => by simp only [List.mem_cons, List.not_mem_nil, or_false, or_self] at hv; subst hv; rfl), ?_, ?_, ?_, ?_, ?_, ?_, ?_, ?_⟩
  · exact by rw [G 0, if_neg (by omega)]; exact h.kind
  · exact ⟨h.whe.1, fun i hi => by rw [G (1 + i), if_neg (by omega)]; exact h.whe.2 i hi⟩
  · exact ⟨h.lst.1, fun i hi => by rw [G (10 + i), if_neg (by omega)]; exact h.lst.2 i hi⟩
  · exact ⟨h.cvs.1, fun i c hc => by
      have hi : i < 4 := by have := (List.getElem?_eq_some_iff.1 hc).1; rw [h.cvs.1] at this; exact this
      obtain ⟨a, ⟨vx, b, s⟩, vy, d, s2⟩ := h.cvs.2 i c hc
      exact ⟨by rw [G (20 + 3 * i), if_neg (by omega)]; exact a, ⟨vx, by rw [G (21 + 3 * i), if_neg (by omega)]; exact b, s⟩, vy, by rw [G (22 + 3 * i), if_neg (by omega)]; exact d, s2⟩⟩
  · exact ⟨h.mix.1, fun i hi => by rw [G (32 + i), if_neg (by omega)]; exact h.mix.2 i hi⟩
  · exact by rw [G 44, if_neg (by omega)]; exact h.piv
  · exact by rw [G 45, if_neg (by omega)]; exact h.amt
  · exact ⟨by simp, fun i hi => by rw [G (46 + i), if_pos (by omega)]; rcases (by omega : i = 0 ∨ i = 1 ∨ i = 2) with rfl | rfl | rfl <;> rfl⟩
theorem GdAt.zpa {w : World} {C : Array Value} {g : Gd} (h : GdAt w C g) : GdAt w (putsAt C 44 [.float .f32 0, .float .f32 0]) { g with piv := 0, amt := 0 } := by
  have hs := h.size
  have hf : 44 + ([.float .f32 0, .float .f32 0] : List Value).length ≤ C.size := by rw [hs]; simp; try omega
  have hL : ([.float .f32 0, .float .f32 0] : List Value).length = 2 := by simp
  have G := fun jj => putsAt_get [.float .f32 0, .float .f32 0] C (44) jj hf
  rw [hL] at G
  refine ⟨by rw [putsAt_size]; exact hs, putsAt_all hf h.one (fun v hv => by simp only [List.mem_cons, List.not_mem_nil, or_false, or_self] at hv; subst hv; rfl), ?_, ?_, ?_, ?_, ?_, ?_, ?_, ?_⟩
  · exact by rw [G 0, if_neg (by omega)]; exact h.kind
  · exact ⟨h.whe.1, fun i hi => by rw [G (1 + i), if_neg (by omega)]; exact h.whe.2 i hi⟩
  · exact ⟨h.lst.1, fun i hi => by rw [G (10 + i), if_neg (by omega)]; exact h.lst.2 i hi⟩
  · exact ⟨h.cvs.1, fun i c hc => by
      have hi : i < 4 := by have := (List.getElem?_eq_some_iff.1 hc).1; rw [h.cvs.1] at this; exact this
      obtain ⟨a, ⟨vx, b, s⟩, vy, d, s2⟩ := h.cvs.2 i c hc
      exact ⟨by rw [G (20 + 3 * i), if_neg (by omega)]; exact a, ⟨vx, by rw [G (21 + 3 * i), if_neg (by omega)]; exact b, s⟩, vy, by rw [G (22 + 3 * i), if_neg (by omega)]; exact d, s2⟩⟩
  · exact ⟨h.mix.1, fun i hi => by rw [G (32 + i), if_neg (by omega)]; exact h.mix.2 i hi⟩
  · exact by rw [G 44, if_pos (by omega)]; rfl
  · exact by rw [G 45, if_pos (by omega)]; rfl
  · exact ⟨h.pts.1, fun i hi => by rw [G (46 + i), if_neg (by omega)]; exact h.pts.2 i hi⟩
theorem GdAt.zcv {w : World} {C : Array Value} {g : Gd} (h : GdAt w C g) (j : Nat) (hj : j < 4) : GdAt w (putsAt C (20 + 3 * j) [.int .i64 0, .slice none 0 0, .slice none 0 0]) { g with cvs := g.cvs.set j ⟨0, [], []⟩ } := by
  have hs := h.size
  have hf : (20 + 3 * j) + ([.int .i64 0, .slice none 0 0, .slice none 0 0] : List Value).length ≤ C.size := by rw [hs]; simp; try omega
  have hL : ([.int .i64 0, .slice none 0 0, .slice none 0 0] : List Value).length = 3 := by simp
  have G := fun jj => putsAt_get [.int .i64 0, .slice none 0 0, .slice none 0 0] C ((20 + 3 * j)) jj hf
  rw [hL] at G
  refine ⟨by rw [putsAt_size]; exact hs, putsAt_all hf h.one (fun v hv => by simp only [List.mem_cons, List.not_mem_nil, or_false, or_self] at hv; rcases hv with rfl | rfl <;> rfl), ?_, ?_, ?_, ?_, ?_, ?_, ?_, ?_⟩
  · exact by rw [G 0, if_neg (by omega)]; exact h.kind
  · exact ⟨h.whe.1, fun i hi => by rw [G (1 + i), if_neg (by omega)]; exact h.whe.2 i hi⟩
  · exact ⟨h.lst.1, fun i hi => by rw [G (10 + i), if_neg (by omega)]; exact h.lst.2 i hi⟩
  · exact ⟨by rw [List.length_set]; exact h.cvs.1, fun i c hc => by
      have hi : i < 4 := by have := (List.getElem?_eq_some_iff.1 hc).1; rw [List.length_set, h.cvs.1] at this; exact this
      by_cases hij : i = j
      · subst hij
        rw [List.getElem?_set_self (by rw [h.cvs.1]; exact hi)] at hc
        obtain rfl := Option.some.inj hc
        have g0 := G (20 + 3 * i)
        have g1 := G (21 + 3 * i)
        have g2 := G (22 + 3 * i)
        rw [if_pos (by omega)] at g0 g1 g2
        rw [show 20 + 3 * i - (20 + 3 * i) = 0 by omega] at g0
        rw [show 21 + 3 * i - (20 + 3 * i) = 1 by omega] at g1
        rw [show 22 + 3 * i - (20 + 3 * i) = 2 by omega] at g2
        exact ⟨g0, ⟨_, g1, .inr ⟨rfl, _, _, rfl⟩⟩, _, g2, .inr ⟨rfl, _, _, rfl⟩⟩
      · rw [List.getElem?_set_ne (Ne.symm hij)] at hc
        obtain ⟨a, ⟨vx, b, s⟩, vy, d, s2⟩ := h.cvs.2 i c hc
        exact ⟨by rw [G (20 + 3 * i), if_neg (by omega)]; exact a, ⟨vx, by rw [G (21 + 3 * i), if_neg (by omega)]; exact b, s⟩, vy, by rw [G (22 + 3 * i), if_neg (by omega)]; exact d, s2⟩⟩
  · exact ⟨h.mix.1, fun i hi => by rw [G (32 + i), if_neg (by omega)]; exact h.mix.2 i hi⟩
  · exact by rw [G 44, if_neg (by omega)]; exact h.piv
  · exact by rw [G 45, if_neg (by omega)]; exact h.amt
  · exact ⟨h.pts.1, fun i hi => by rw [G (46 + i), if_neg (by omega)]; exact h.pts.2 i hi⟩
/-- The curves, those with points among the first j made zero. -/
def zcv (l : List Cv) (j : Nat) : List Cv := (l.take j).map (fun c => if hasP c then ⟨0, [], []⟩ else c) ++ l.drop j
theorem zcv_zero (l : List Cv) : zcv l 0 = l := by simp [zcv]
theorem zcv_yes {l : List Cv} {j : Nat} {c : Cv} (hc : l[j]? = some c) (h : hasP c = true) : zcv l (j + 1) = (zcv l j).set j ⟨0, [], []⟩ := by
  have hl := (List.getElem?_eq_some_iff.1 hc).1
  have hd : l.drop j = c :: l.drop (j + 1) := by
    rw [List.drop_eq_getElem_cons hl, (List.getElem?_eq_some_iff.1 hc).2]
  unfold zcv
  rw [List.take_add_one, hc, hd, List.set_append_right _ _ (by simp; omega)]
  simp [h, Nat.min_eq_left (Nat.le_of_lt hl)]
theorem zcv_no {l : List Cv} {j : Nat} {c : Cv} (hc : l[j]? = some c) (h : hasP c = false) : zcv l (j + 1) = zcv l j := by
  have hl := (List.getElem?_eq_some_iff.1 hc).1
  have hd : l.drop j = c :: l.drop (j + 1) := by
    rw [List.drop_eq_getElem_cons hl, (List.getElem?_eq_some_iff.1 hc).2]
  unfold zcv
  rw [List.take_add_one, hc, hd]
  simp [h]
theorem zer0_0 : zer0 0 = true := by decide
theorem rep_zer0 (n : Nat) : (List.replicate n 0).all zer0 = true := by
  rw [List.all_eq_true]
  intro x hx
  rw [(List.mem_replicate.1 hx).2]
  exact zer0_0
theorem any_cvBad {k : Int} (hk : k ≠ 3) (l : List Cv) : l.any (cvBad k) = l.any cvNz := by
  congr 1
  funext c
  unfold cvBad cvNz
  rw [decide_eq_false hk]; rfl
theorem any_zcv (l : List Cv) : (zcv l l.length).any cvNz = l.any (cvBad 3) := by
  unfold zcv
  rw [List.take_length, List.drop_length, List.append_nil, List.any_map]
  congr 1
  funext c
  show cvNz (if hasP c then ⟨0, [], []⟩ else c) = cvBad 3 c
  unfold cvBad
  cases h : hasP c
  · simp [cvNz, h]
  · rw [if_pos rfl]; simp [cvNz, hasP]
theorem zs1 {g : Gd} (hk : g.kind = 1) : zeroG { g with kind := 0, whe := List.replicate 9 0 } = spareB g := by
  unfold zeroG spareB
  rw [hk, any_cvBad (by decide)]
  simp [rep_zer0, zer0_0, Bool.and_assoc]
theorem zs2 {g : Gd} (hk : g.kind = 2) : zeroG { g with kind := 0, lst := List.replicate 10 0 } = spareB g := by
  unfold zeroG spareB
  rw [hk, any_cvBad (by decide)]
  simp [rep_zer0, zer0_0, Bool.and_assoc]
theorem zs3 {g : Gd} (hk : g.kind = 3) : zeroG { g with kind := 0, cvs := zcv g.cvs g.cvs.length } = spareB g := by
  unfold zeroG spareB
  rw [hk]
  simp [rep_zer0, zer0_0, any_zcv, Bool.and_assoc]
theorem zs4 {g : Gd} (hk : g.kind = 4) : zeroG { g with kind := 0, mix := List.replicate 12 0 } = spareB g := by
  unfold zeroG spareB
  rw [hk, any_cvBad (by decide)]
  simp [rep_zer0, zer0_0, Bool.and_assoc]
theorem zs5 {g : Gd} (hk : g.kind = 5) : zeroG { g with kind := 0, piv := 0, amt := 0 } = spareB g := by
  unfold zeroG spareB
  rw [hk, any_cvBad (by decide)]
  simp [rep_zer0, zer0_0, Bool.and_assoc]
theorem zs6 {g : Gd} (hk : g.kind = 6) : zeroG { g with kind := 0, pts := List.replicate 3 0 } = spareB g := by
  unfold zeroG spareB
  rw [hk, any_cvBad (by decide)]
  simp [rep_zer0, zer0_0, Bool.and_assoc]
end

section
open Go.RowKit Go.Lib

set_option maxRecDepth 100000 in
set_option maxHeartbeats 64000000 in
theorem ref_GradeError (C : Array Value) (g : Gd) (W : World) (hG : GdAt W C g) : Calls Tryz.prog 34 #[.agg C] W fun e w' => e = .returned (.int .i64 (gradeErr g)) ∧ Below W.heap.size W w' := by
  have HG := Lib.hid hG
  clear hG
  obtain ⟨kk, hkk⟩ : ∃ kk, g.kind = kk := ⟨_, rfl⟩
  have HKK := Lib.hid hkk
  clear hkk
  go_enter Tryz.func34, Tryz.ntmps34
  go_upto_region 1 with fail
  refine name_world ?_
  intro W1 hW1
  have X1 : Hid (Bx W1 W.heap.size 46 C) := Lib.hid (by rw [hW1]; exact Bx.new W _ C)
  have HW : Hid (Below W.heap.size W W1) := Lib.hid (by rw [hW1]; exact bnew (ob := .cells C 46) (Below.refl _ _))
  obtain ⟨p1, hp1⟩ : ∃ p, W.heap.size = p := ⟨_, rfl⟩
  rw [hp1] at X1 ⊢
  have HP1 := Lib.hid hp1
  have q0 : W1.cell? ⟨p1, 0, none⟩ = some (.int .i64 kk) := by rw [X1.out.all.1, HG.out.kind, HKK.out]
  clear hW1 hp1
  by_cases hlo : kk < 1
  · have HE : Hid (gradeErr g = 1) := Lib.hid (by unfold gradeErr kindErr; rw [HKK.out, if_neg (show ¬ kk = 1 by omega), if_neg (show ¬ kk = 2 by omega), if_neg (show ¬ kk = 3 by omega), if_neg (show ¬ kk = 4 by omega), if_neg (show ¬ kk = 5 by omega), if_neg (show ¬ kk = 6 by omega)]; rfl)
    go_wp2_with fail
    go_ret
    exact ⟨ErrIs HE.out.symm, HW.out⟩
  · by_cases hhi : 6 < kk
    · have HE : Hid (gradeErr g = 1) := Lib.hid (by unfold gradeErr kindErr; rw [HKK.out, if_neg (show ¬ kk = 1 by omega), if_neg (show ¬ kk = 2 by omega), if_neg (show ¬ kk = 3 by omega), if_neg (show ¬ kk = 4 by omega), if_neg (show ¬ kk = 5 by omega), if_neg (show ¬ kk = 6 by omega)]; rfl)
      go_wp2_with fail
      go_ret
      exact ⟨ErrIs HE.out.symm, HW.out⟩
    · have hkr : kk = 1 ∨ kk = 2 ∨ kk = 3 ∨ kk = 4 ∨ kk = 5 ∨ kk = 6 := by omega
      have hst := fun w => grade_store w HG.out.size HG.out.one
      have hcs := HG.out.size
      have HLD : Hid (∀ (j : Nat) (v : Value), C[j]? = some v → W1.cell? ⟨p1, 0 + j, none⟩ = some v) := Lib.hid (fun j v hj => by rw [X1.out.all.1, Nat.zero_add]; exact hj)
      have hc0 : C[0]? = some (.int .i64 kk) := by rw [HG.out.kind, HKK.out]
      have hno := (Bx.new W1 46 C).all
      have hno1 := hno.1 0
      have hno2 := hno.2.1 0
      rw [hc0] at hno1
      clear hno hc0
      go_upto_region 6 with (refine wpList_load_cells rfl 46 (.tmp 1) rfl p1 0 rfl C HLD.out _ Tryz.underlying46 rfl (by rw [HG.out.size]; exact grade_size) ?_)
      clear hno1 hno2 hst hcs HLD
      refine name_world ?_
      intro W3 hW3
      have X4 : Hid (Bx W3 W1.heap.size 46 (putsAt C 0 [.int .i64 0])) := Lib.hid (by rw [hW3]; exact Bx.new W1 46 _)
      have X3 : Hid (Bx W3 p1 46 C) := Lib.hid (by rw [hW3]; exact X1.out.keep (bnew (Below.refl _ _)))
      have HW3 : Hid (Below W.heap.size W W3) := Lib.hid (by rw [hW3]; exact bnew HW.out)
      have HPP : Hid (W.heap.size ≤ W1.heap.size ∧ p1 ≠ W1.heap.size) := Lib.hid ⟨HW.out.size, Nat.ne_of_lt X1.out.lt⟩
      have HG0 : Hid (GdAt W (putsAt C 0 [.int .i64 0]) { g with kind := 0 }) := Lib.hid HG.out.zkind
      obtain ⟨p4, hp4⟩ : ∃ p, W1.heap.size = p := ⟨_, rfl⟩
      rw [hp4] at X4 HPP ⊢
      obtain ⟨C0, hC0⟩ : ∃ C0, putsAt C 0 [.int .i64 0] = C0 := ⟨_, rfl⟩
      rw [hC0] at X4 HG0
      have q0 : W3.cell? ⟨p1, 0, none⟩ = some (.int .i64 kk) := by rw [X3.out.all.1, HG.out.kind, HKK.out]
      clear hW3 hp4 hC0 HW X1 hlo hhi
      rcases hkr with rfl | rfl | rfl | rfl | rfl | rfl
      · obtain ⟨hD1, hD2⟩ := part_cells X3.out 1 9 (by rw [HG.out.size]; omega)
        obtain ⟨D, hD⟩ : ∃ D, C.extract 1 (1 + 9) = D := ⟨_, rfl⟩
        have hDg : ∀ k, k < 9 → D[k]? = some (.float .f32 (g.whe.getD k 0)) := fun k hk => by rw [← hD, part_get HG.out 1 9 (by omega) k hk]; exact HG.out.whe.2 k hk
        rw [hD] at hD1 hD2
        have HD := Lib.hid (And.intro hD1 (And.intro hD2 hDg))
        clear hD1 hD2 hDg hD
        go_wp2_with (refine wpList_load_cells rfl 34 (.tmp 24) rfl p1 1 rfl D HD.out.2.1 _ Tryz.underlying34 rfl (by rw [HD.out.1]; exact size_wh) ?_)
        refine (ref_WheelsError D g.whe HG.out.whe.1 HD.out.1 HD.out.2.2 W3).mono ?_
        rintro e w7 ⟨rfl, hb7⟩
        have X7 := Lib.hid (X4.out.keep hb7)
        have HW7 : Hid (Below W.heap.size W w7) := Lib.hid (bcall HW3.out hb7)
        obtain ⟨E, hE⟩ : ∃ E, whErr g.whe = E := ⟨_, rfl⟩
        rw [hE]
        have HEE := Lib.hid hE
        have hx4 := X7.out.all
        have hfz := hx4.2.1
        have d1 := hx4.1 1
        rw [HG0.out.whe.2 0 (by omega)] at d1
        have d2 := hx4.1 2
        rw [HG0.out.whe.2 1 (by omega)] at d2
        have d3 := hx4.1 3
        rw [HG0.out.whe.2 2 (by omega)] at d3
        have d4 := hx4.1 4
        rw [HG0.out.whe.2 3 (by omega)] at d4
        have d5 := hx4.1 5
        rw [HG0.out.whe.2 4 (by omega)] at d5
        have d6 := hx4.1 6
        rw [HG0.out.whe.2 5 (by omega)] at d6
        have d7 := hx4.1 7
        rw [HG0.out.whe.2 6 (by omega)] at d7
        have d8 := hx4.1 8
        rw [HG0.out.whe.2 7 (by omega)] at d8
        have d9 := hx4.1 9
        rw [HG0.out.whe.2 8 (by omega)] at d9
        clear hx4 hE hb7 q0
        go_upto_region 33 with fail
        clear hfz d1 d2 d3 d4 d5 d6 d7 d8 d9
        refine name_world ?_
        intro w8 hw8
        have XF : Hid (Bx w8 p4 46 (putsAt C0 1 [.float .f32 0, .float .f32 0, .float .f32 0, .float .f32 0, .float .f32 0, .float .f32 0, .float .f32 0, .float .f32 0, .float .f32 0])) := Lib.hid (by rw [hw8]; exact (((((((((X7.out).set 1 (.float .f32 0)).set 2 (.float .f32 0)).set 3 (.float .f32 0)).set 4 (.float .f32 0)).set 5 (.float .f32 0)).set 6 (.float .f32 0)).set 7 (.float .f32 0)).set 8 (.float .f32 0)).set 9 (.float .f32 0))
        have HB8 : Hid (Below W.heap.size W w8) := Lib.hid (by rw [hw8]; exact (bput HPP.out.1 (bput HPP.out.1 (bput HPP.out.1 (bput HPP.out.1 (bput HPP.out.1 (bput HPP.out.1 (bput HPP.out.1 (bput HPP.out.1 (bput HPP.out.1 HW7.out))))))))))
        obtain ⟨Cz, hCz⟩ : ∃ Cz, putsAt C0 1 [.float .f32 0, .float .f32 0, .float .f32 0, .float .f32 0, .float .f32 0, .float .f32 0, .float .f32 0, .float .f32 0, .float .f32 0] = Cz := ⟨_, rfl⟩
        have HGZ := Lib.hid HG0.out.zwhe
        rw [hCz] at XF HGZ
        clear hw8 hCz
        have HBF : Hid (Below W.heap.size W w8) := Lib.hid (HB8.out)
        have HZ := Lib.hid (ref_zeroGrade _ _ w8 (GdAt.keep HGZ.out HBF.out))
        have HZS : Hid (zeroG _ = spareB g) := Lib.hid (zs1 HKK.out)
        have HLZ : Hid (∀ (j : Nat) (v : Value), Cz[j]? = some v → (w8 : World).cell? ⟨p4, 0 + j, none⟩ = some v) := Lib.hid (fun j v hj => by rw [(XF.out).all.1, Nat.zero_add]; exact hj)
        have HSZ : Hid (Cz.size = 49) := Lib.hid (HGZ.out).size
        have HKE : Hid (kindErr g = E) := Lib.hid (by unfold kindErr; rw [if_pos (by rw [HKK.out])]; exact HEE.out)
        by_cases e0 : E = 0
        · subst e0
          have HER : Hid (gradeErr g = if spareB g then 0 else 12) := Lib.hid (by unfold gradeErr; rw [HKE.out, if_neg (by decide)])
          go_wp2_with (refine wpList_load_cells rfl 46 (.tmp 4) rfl p4 0 rfl Cz HLZ.out _ Tryz.underlying46 rfl (by rw [HSZ.out]; exact grade_size) ?_)
          refine HZ.out.mono ?_
          rintro e w9 ⟨rfl, hb9⟩
          rw [HZS.out]
          have HB9 : Hid (Below W.heap.size W w9) := Lib.hid (bcall HBF.out hb9)
          obtain ⟨sp, hsp⟩ : ∃ s, spareB g = s := ⟨_, rfl⟩
          rw [hsp] at HER ⊢
          clear hb9 hsp
          cases sp
          · simp only [Bool.not_false]
            go_wp2_with fail
            refine (ref_When _ _ _).mono ?_
            rintro e w10 ⟨rfl, rfl⟩
            go_wp2_with fail
            go_ret
            exact ⟨ErrIs (by rw [HER.out]; rfl), HB9.out⟩
          · simp only [Bool.not_true]
            go_wp2_with fail
            refine (ref_When _ _ _).mono ?_
            rintro e w10 ⟨rfl, rfl⟩
            go_wp2_with fail
            go_ret
            exact ⟨ErrIs (by rw [HER.out]; rfl), HB9.out⟩
        · have HER : Hid (gradeErr g = E) := Lib.hid (by unfold gradeErr; rw [HKE.out, if_pos (e0)])
          go_wp2_with fail
          go_ret
          exact ⟨ErrIs HER.out.symm, HBF.out⟩
      · obtain ⟨hD1, hD2⟩ := part_cells X3.out 10 10 (by rw [HG.out.size]; omega)
        obtain ⟨D, hD⟩ : ∃ D, C.extract 10 (10 + 10) = D := ⟨_, rfl⟩
        have hDg : ∀ k, k < 10 → D[k]? = some (.float .f32 (g.lst.getD k 0)) := fun k hk => by rw [← hD, part_get HG.out 10 10 (by omega) k hk]; exact HG.out.lst.2 k hk
        rw [hD] at hD1 hD2
        have HD := Lib.hid (And.intro hD1 (And.intro hD2 hDg))
        clear hD1 hD2 hDg hD
        go_wp2_with (refine wpList_load_cells rfl 36 (.tmp 31) rfl p1 10 rfl D HD.out.2.1 _ Tryz.underlying36 rfl (by rw [HD.out.1]; exact size_ls) ?_)
        refine (ref_ListError D g.lst HG.out.lst.1 HD.out.1 HD.out.2.2 W3).mono ?_
        rintro e w7 ⟨rfl, hb7⟩
        have X7 := Lib.hid (X4.out.keep hb7)
        have HW7 : Hid (Below W.heap.size W w7) := Lib.hid (bcall HW3.out hb7)
        obtain ⟨E, hE⟩ : ∃ E, lsErr g.lst = E := ⟨_, rfl⟩
        rw [hE]
        have HEE := Lib.hid hE
        have hx4 := X7.out.all
        have hfz := hx4.2.1
        have d10 := hx4.1 10
        rw [HG0.out.lst.2 0 (by omega)] at d10
        have d11 := hx4.1 11
        rw [HG0.out.lst.2 1 (by omega)] at d11
        have d12 := hx4.1 12
        rw [HG0.out.lst.2 2 (by omega)] at d12
        have d13 := hx4.1 13
        rw [HG0.out.lst.2 3 (by omega)] at d13
        have d14 := hx4.1 14
        rw [HG0.out.lst.2 4 (by omega)] at d14
        have d15 := hx4.1 15
        rw [HG0.out.lst.2 5 (by omega)] at d15
        have d16 := hx4.1 16
        rw [HG0.out.lst.2 6 (by omega)] at d16
        have d17 := hx4.1 17
        rw [HG0.out.lst.2 7 (by omega)] at d17
        have d18 := hx4.1 18
        rw [HG0.out.lst.2 8 (by omega)] at d18
        have d19 := hx4.1 19
        rw [HG0.out.lst.2 9 (by omega)] at d19
        clear hx4 hE hb7 q0
        go_upto_region 33 with fail
        clear hfz d10 d11 d12 d13 d14 d15 d16 d17 d18 d19
        refine name_world ?_
        intro w8 hw8
        have XF : Hid (Bx w8 p4 46 (putsAt C0 10 [.float .f32 0, .float .f32 0, .float .f32 0, .float .f32 0, .float .f32 0, .float .f32 0, .float .f32 0, .float .f32 0, .float .f32 0, .float .f32 0])) := Lib.hid (by rw [hw8]; exact ((((((((((X7.out).set 10 (.float .f32 0)).set 11 (.float .f32 0)).set 12 (.float .f32 0)).set 13 (.float .f32 0)).set 14 (.float .f32 0)).set 15 (.float .f32 0)).set 16 (.float .f32 0)).set 17 (.float .f32 0)).set 18 (.float .f32 0)).set 19 (.float .f32 0))
        have HB8 : Hid (Below W.heap.size W w8) := Lib.hid (by rw [hw8]; exact (bput HPP.out.1 (bput HPP.out.1 (bput HPP.out.1 (bput HPP.out.1 (bput HPP.out.1 (bput HPP.out.1 (bput HPP.out.1 (bput HPP.out.1 (bput HPP.out.1 (bput HPP.out.1 HW7.out)))))))))))
        obtain ⟨Cz, hCz⟩ : ∃ Cz, putsAt C0 10 [.float .f32 0, .float .f32 0, .float .f32 0, .float .f32 0, .float .f32 0, .float .f32 0, .float .f32 0, .float .f32 0, .float .f32 0, .float .f32 0] = Cz := ⟨_, rfl⟩
        have HGZ := Lib.hid HG0.out.zlst
        rw [hCz] at XF HGZ
        clear hw8 hCz
        have HBF : Hid (Below W.heap.size W w8) := Lib.hid (HB8.out)
        have HZ := Lib.hid (ref_zeroGrade _ _ w8 (GdAt.keep HGZ.out HBF.out))
        have HZS : Hid (zeroG _ = spareB g) := Lib.hid (zs2 HKK.out)
        have HLZ : Hid (∀ (j : Nat) (v : Value), Cz[j]? = some v → (w8 : World).cell? ⟨p4, 0 + j, none⟩ = some v) := Lib.hid (fun j v hj => by rw [(XF.out).all.1, Nat.zero_add]; exact hj)
        have HSZ : Hid (Cz.size = 49) := Lib.hid (HGZ.out).size
        have HKE : Hid (kindErr g = E) := Lib.hid (by unfold kindErr; rw [if_neg (by rw [HKK.out]; decide), if_pos (by rw [HKK.out])]; exact HEE.out)
        by_cases e0 : E = 0
        · subst e0
          have HER : Hid (gradeErr g = if spareB g then 0 else 12) := Lib.hid (by unfold gradeErr; rw [HKE.out, if_neg (by decide)])
          go_wp2_with (refine wpList_load_cells rfl 46 (.tmp 4) rfl p4 0 rfl Cz HLZ.out _ Tryz.underlying46 rfl (by rw [HSZ.out]; exact grade_size) ?_)
          refine HZ.out.mono ?_
          rintro e w9 ⟨rfl, hb9⟩
          rw [HZS.out]
          have HB9 : Hid (Below W.heap.size W w9) := Lib.hid (bcall HBF.out hb9)
          obtain ⟨sp, hsp⟩ : ∃ s, spareB g = s := ⟨_, rfl⟩
          rw [hsp] at HER ⊢
          clear hb9 hsp
          cases sp
          · simp only [Bool.not_false]
            go_wp2_with fail
            refine (ref_When _ _ _).mono ?_
            rintro e w10 ⟨rfl, rfl⟩
            go_wp2_with fail
            go_ret
            exact ⟨ErrIs (by rw [HER.out]; rfl), HB9.out⟩
          · simp only [Bool.not_true]
            go_wp2_with fail
            refine (ref_When _ _ _).mono ?_
            rintro e w10 ⟨rfl, rfl⟩
            go_wp2_with fail
            go_ret
            exact ⟨ErrIs (by rw [HER.out]; rfl), HB9.out⟩
        · have HER : Hid (gradeErr g = E) := Lib.hid (by unfold gradeErr; rw [HKE.out, if_pos (e0)])
          go_wp2_with fail
          go_ret
          exact ⟨ErrIs HER.out.symm, HBF.out⟩
      · obtain ⟨hD1, hD2⟩ := part_cells X3.out 20 12 (by rw [HG.out.size]; omega)
        have HD := Lib.hid (And.intro hD1 hD2)
        clear hD1 hD2
        go_wp2_with (refine wpList_load_cells rfl 40 (.tmp 38) rfl p1 20 rfl (C.extract 20 (20 + 12)) HD.out.2 _ Tryz.underlying40 rfl (by rw [HD.out.1]; exact size_c4) ?_)
        obtain ⟨D, hD⟩ : ∃ D, C.extract 20 (20 + 12) = D := ⟨_, rfl⟩
        rw [hD]
        have HDe := Lib.hid hD
        clear hD q0
        go_loopw [3, 40] (fun s3 i wr => ∃ (j : Nat) (E : Int) (C4 : Array Value), j ≤ 4 ∧ i = .int .i64 (j : Int) ∧ s3 = .int .i64 E ∧ Hid (cvsErr (g.cvs.take j) = E) ∧ Hid (Below W.heap.size W wr) ∧ Hid (Bx wr p4 46 C4) ∧ Hid (GdAt W C4 { g with kind := 0, cvs := zcv g.cvs j })) (fun _ i _ => 4 - (RowKit.intOf i).toNat)
        case atStart => exact ⟨0, 0, C0, by omega, rfl, rfl, Lib.hid rfl, HW3, X4, Lib.hid (by rw [zcv_zero]; exact HG0.out)⟩
        case round =>
          obtain ⟨j, E, C4, hj, rfl, rfl, HA, HB, XW, HGJ⟩ := hrel
          by_cases hlj : j < 4
          · obtain ⟨c3, hc3⟩ : ∃ c3, g.cvs[j]? = some c3 := ⟨_, List.getElem?_eq_getElem (by have := HG.out.cvs.1; omega)⟩
            obtain ⟨vx, vy, e3, slx, sly⟩ := HG.out.cv hc3
            rw [HDe.out] at e3
            have hnx := cvsErr_next hc3
            rw [HA.out] at hnx
            have HSL := Lib.hid (And.intro slx sly)
            obtain ⟨ax, cx, rfl⟩ := slx.sl
            obtain ⟨ay, cy, rfl⟩ := sly.sl
            obtain ⟨nx, hx⟩ : ∃ n, c3.xs.length = n := ⟨_, rfl⟩
            obtain ⟨ny, hy⟩ : ∃ n, c3.ys.length = n := ⟨_, rfl⟩
            have hhp : hasP c3 = (decide (0 < nx) || decide (0 < ny)) := by unfold hasP; rw [hx, hy]
            obtain ⟨ck, hck⟩ : ∃ n, c3.kind = n := ⟨_, rfl⟩
            rw [hx, hy] at HSL
            rw [hx, hy, hck] at e3
            obtain ⟨D3, hD3⟩ : ∃ D3, (#[Value.int .i64 ck, .slice ax nx cx, .slice ay ny cy] : Array Value) = D3 := ⟨_, rfl⟩
            have hone : D3.all (·.oneCell') = true := by rw [← hD3]; simp [Value.oneCell']
            have hcs : D3.size = 3 := by rw [← hD3]; rfl
            have hst := fun w => curve_store w hcs hone
            rw [hD3] at e3
            have HE3 := Lib.hid (And.intro e3 hD3)
            have HC3 := Lib.hid (And.intro hnx (And.intro hck (And.intro hhp hc3)))
            have hd2 : decide ((j : Int) < 4) = true := decide_eq_true (by omega)
            clear hc3 slx sly hx hy hck hone hD3 e3 hhp hnx
            go_upto_region 14 with fail
            go_upto_region 15 with (refine wpList_index_cv rfl (.tmp 39) (.tmp 40) rfl rfl rfl hlj HE3.out.1 ?_)
            clear hst hcs
            refine name_world ?_
            intro W2 hW2
            have X6 : Hid (Bx W2 wr.heap.size 39 D3) := Lib.hid (by rw [hW2]; exact Bx.new wr _ D3)
            have XV : Hid (Bx W2 p4 46 C4) := Lib.hid (by rw [hW2]; exact XW.out.keep (bnew (ob := .cells D3 39) (Below.refl _ _)))
            have HB2 : Hid (Below W.heap.size W W2) := Lib.hid (by rw [hW2]; exact bnew (ob := .cells D3 39) HB.out)
            obtain ⟨p6, hp6⟩ : ∃ p, wr.heap.size = p := ⟨_, rfl⟩
            rw [hp6] at X6 ⊢
            clear hW2 hp6
            have hD3 := HE3.out.2
            subst hD3
            have hr := X6.out.all.1
            have r0 := hr 0
            have r1 := hr 1
            have r2 := hr 2
            simp only [List.getElem?_toArray, List.getElem?_cons_zero, List.getElem?_cons_succ] at r0 r1 r2
            clear hr
            by_cases hz : nx = 0 ∧ ny = 0
            · obtain ⟨rfl, rfl⟩ := hz
              have Hh : Hid (hasP c3 = false) := Lib.hid (by rw [HC3.out.2.2.1]; rfl)
              have HN : Hid (cvsErr (g.cvs.take (j + 1)) = E) := Lib.hid (by rw [HC3.out.1, Hh.out, if_neg (by rintro ⟨h, _⟩; cases h)])
              go_wp2_with fail
              go_roundw
              case rel => exact ⟨j + 1, E, C4, by omega, by go_num, rfl, HN, HB2, XV, Lib.hid (by rw [zcv_no HC3.out.2.2.2 Hh.out]; exact HGJ.out)⟩
              case measure => simp [RowKit.intOf]; omega
            · have Hh : Hid (hasP c3 = true) := Lib.hid (by rw [HC3.out.2.2.1]; by_cases h : 0 < nx <;> simp [h]; omega)
              have HZ2 : Hid (GdAt W (putsAt C4 (20 + 3 * j) [.int .i64 0, .slice none 0 0, .slice none 0 0]) { g with kind := 0, cvs := zcv g.cvs (j + 1) }) := Lib.hid (by rw [zcv_yes HC3.out.2.2.2 Hh.out]; exact HGJ.out.zcv j hlj)
              have hcc := HC3.out.2.1
              subst hcc
              have KC : Hid (∀ w, Below W.heap.size W w → Calls Tryz.prog 71 #[.agg #[.int .i64 c3.kind, .slice ax nx cx, .slice ay ny cy]] w fun e w' => e = .returned (.int .i64 (curveErr c3)) ∧ Below w.heap.size w w') := Lib.hid (fun w hb => ref_CurveError c3 _ _ w (HSL.out.1.keep hb) (HSL.out.2.keep hb))
              have P20 : p4 < W2.heap.size := XV.out.lt
              obtain ⟨ck, hck⟩ : ∃ n, c3.kind = n := ⟨_, rfl⟩
              rw [hck] at r0 KC
              clear hck
              by_cases hnx0 : nx = 0
              · subst hnx0
                have hny0 : ¬ (ny : Int) = 0 := by omega
                go_wp2_with fail
                refine (KC.out _ HB2.out).mono ?_
                rintro e w5 ⟨rfl, hb5⟩
                have HB5 : Hid (Below W.heap.size W w5) := Lib.hid (HB2.out.trans (hb5.mono HB2.out.size))
                have XV5 := Lib.hid (XV.out.keep hb5)
                have hx4 := XV5.out.all
                have hfz := hx4.2.1
                obtain ⟨E2, hE2⟩ : ∃ E2, curveErr c3 = E2 := ⟨_, rfl⟩
                rw [hE2]
                have HE2 := Lib.hid hE2
                have HJG : Hid (∀ c, (zcv g.cvs j)[j]? = some c → (∃ a, C4[20 + j * 3]? = some a) ∧ (∃ a, C4[20 + j * 3 + 1]? = some a) ∧ ∃ a, C4[20 + j * 3 + 2]? = some a) := Lib.hid (fun _ _ => by
                  have hs := HGJ.out.size
                  exact ⟨⟨_, Array.getElem?_eq_getElem (by omega)⟩, ⟨_, Array.getElem?_eq_getElem (by omega)⟩, ⟨_, Array.getElem?_eq_getElem (by omega)⟩⟩)
                have hs4 := HGJ.out.size
                obtain ⟨a0, ha0⟩ : ∃ a, C4[20 + j * 3]? = some a := ⟨_, Array.getElem?_eq_getElem (by omega)⟩
                obtain ⟨a1, ha1⟩ : ∃ a, C4[20 + j * 3 + 1]? = some a := ⟨_, Array.getElem?_eq_getElem (by omega)⟩
                obtain ⟨a2, ha2⟩ : ∃ a, C4[20 + j * 3 + 2]? = some a := ⟨_, Array.getElem?_eq_getElem (by omega)⟩
                have d0 := hx4.1 (20 + j * 3)
                have d1 := hx4.1 (20 + j * 3 + 1)
                have d2 := hx4.1 (20 + j * 3 + 2)
                rw [ha0] at d0
                rw [ha1] at d1
                rw [ha2] at d2
                clear hx4 hE2 hb5 r0 r1 r2 ha0 ha1 ha2 hs4
                by_cases e0 : E = 0
                · have HN : Hid (cvsErr (g.cvs.take (j + 1)) = E2) := Lib.hid (by rw [HC3.out.1, if_pos ⟨Hh.out, e0⟩]; exact HE2.out)
                  subst e0
                  go_wp2_with fail
                  go_roundw
                  case rel => exact ⟨j + 1, E2, putsAt C4 (20 + 3 * j) [.int .i64 0, .slice none 0 0, .slice none 0 0], by omega, by go_num, rfl, HN, Lib.hid (bput HPP.out.1 (bput HPP.out.1 (bput HPP.out.1 HB5.out))), Lib.hid (by rw [show 20 + 3 * j = 20 + j * 3 by omega]; exact ((XV5.out.set _ _).set _ _).set _ _), HZ2⟩
                  case measure => simp [RowKit.intOf]; omega
                · have HN : Hid (cvsErr (g.cvs.take (j + 1)) = E) := Lib.hid (by rw [HC3.out.1, if_neg (fun h => e0 h.2)])
                  go_wp2_with fail
                  go_roundw
                  case rel => exact ⟨j + 1, E, putsAt C4 (20 + 3 * j) [.int .i64 0, .slice none 0 0, .slice none 0 0], by omega, by go_num, rfl, HN, Lib.hid (bput HPP.out.1 (bput HPP.out.1 (bput HPP.out.1 HB5.out))), Lib.hid (by rw [show 20 + 3 * j = 20 + j * 3 by omega]; exact ((XV5.out.set _ _).set _ _).set _ _), HZ2⟩
                  case measure => simp [RowKit.intOf]; omega
              · have hnx1 : ¬ (nx : Int) = 0 := by omega
                go_wp2_with fail
                refine (KC.out _ HB2.out).mono ?_
                rintro e w5 ⟨rfl, hb5⟩
                have HB5 : Hid (Below W.heap.size W w5) := Lib.hid (HB2.out.trans (hb5.mono HB2.out.size))
                have XV5 := Lib.hid (XV.out.keep hb5)
                have hx4 := XV5.out.all
                have hfz := hx4.2.1
                obtain ⟨E2, hE2⟩ : ∃ E2, curveErr c3 = E2 := ⟨_, rfl⟩
                rw [hE2]
                have HE2 := Lib.hid hE2
                have HJG : Hid (∀ c, (zcv g.cvs j)[j]? = some c → (∃ a, C4[20 + j * 3]? = some a) ∧ (∃ a, C4[20 + j * 3 + 1]? = some a) ∧ ∃ a, C4[20 + j * 3 + 2]? = some a) := Lib.hid (fun _ _ => by
                  have hs := HGJ.out.size
                  exact ⟨⟨_, Array.getElem?_eq_getElem (by omega)⟩, ⟨_, Array.getElem?_eq_getElem (by omega)⟩, ⟨_, Array.getElem?_eq_getElem (by omega)⟩⟩)
                have hs4 := HGJ.out.size
                obtain ⟨a0, ha0⟩ : ∃ a, C4[20 + j * 3]? = some a := ⟨_, Array.getElem?_eq_getElem (by omega)⟩
                obtain ⟨a1, ha1⟩ : ∃ a, C4[20 + j * 3 + 1]? = some a := ⟨_, Array.getElem?_eq_getElem (by omega)⟩
                obtain ⟨a2, ha2⟩ : ∃ a, C4[20 + j * 3 + 2]? = some a := ⟨_, Array.getElem?_eq_getElem (by omega)⟩
                have d0 := hx4.1 (20 + j * 3)
                have d1 := hx4.1 (20 + j * 3 + 1)
                have d2 := hx4.1 (20 + j * 3 + 2)
                rw [ha0] at d0
                rw [ha1] at d1
                rw [ha2] at d2
                clear hx4 hE2 hb5 r0 r1 r2 ha0 ha1 ha2 hs4
                by_cases e0 : E = 0
                · have HN : Hid (cvsErr (g.cvs.take (j + 1)) = E2) := Lib.hid (by rw [HC3.out.1, if_pos ⟨Hh.out, e0⟩]; exact HE2.out)
                  subst e0
                  go_wp2_with fail
                  go_roundw
                  case rel => exact ⟨j + 1, E2, putsAt C4 (20 + 3 * j) [.int .i64 0, .slice none 0 0, .slice none 0 0], by omega, by go_num, rfl, HN, Lib.hid (bput HPP.out.1 (bput HPP.out.1 (bput HPP.out.1 HB5.out))), Lib.hid (by rw [show 20 + 3 * j = 20 + j * 3 by omega]; exact ((XV5.out.set _ _).set _ _).set _ _), HZ2⟩
                  case measure => simp [RowKit.intOf]; omega
                · have HN : Hid (cvsErr (g.cvs.take (j + 1)) = E) := Lib.hid (by rw [HC3.out.1, if_neg (fun h => e0 h.2)])
                  go_wp2_with fail
                  go_roundw
                  case rel => exact ⟨j + 1, E, putsAt C4 (20 + 3 * j) [.int .i64 0, .slice none 0 0, .slice none 0 0], by omega, by go_num, rfl, HN, Lib.hid (bput HPP.out.1 (bput HPP.out.1 (bput HPP.out.1 HB5.out))), Lib.hid (by rw [show 20 + 3 * j = 20 + j * 3 by omega]; exact ((XV5.out.set _ _).set _ _).set _ _), HZ2⟩
                  case measure => simp [RowKit.intOf]; omega
          · obtain rfl : j = 4 := by omega
            have HCV : Hid (cvsErr g.cvs = E) := Lib.hid (by have := HA.out; rw [show g.cvs.take 4 = g.cvs by rw [← HG.out.cvs.1, List.take_length]] at this; exact this)
            have HGZ : Hid (GdAt W C4 { g with kind := 0, cvs := zcv g.cvs g.cvs.length }) := Lib.hid (by rw [HG.out.cvs.1]; exact HGJ.out)
            obtain ⟨Cz, hCz⟩ : ∃ Cz, C4 = Cz := ⟨_, rfl⟩
            rw [hCz] at XW HGZ
            clear hCz
            have HBF : Hid (Below W.heap.size W wr) := Lib.hid (HB.out)
            have HZ := Lib.hid (ref_zeroGrade _ _ wr (GdAt.keep HGZ.out HBF.out))
            have HZS : Hid (zeroG _ = spareB g) := Lib.hid (zs3 HKK.out)
            have HLZ : Hid (∀ (j : Nat) (v : Value), Cz[j]? = some v → (wr : World).cell? ⟨p4, 0 + j, none⟩ = some v) := Lib.hid (fun j v hj => by rw [(XW.out).all.1, Nat.zero_add]; exact hj)
            have HSZ : Hid (Cz.size = 49) := Lib.hid (HGZ.out).size
            have HKE : Hid (kindErr g = E) := Lib.hid (by unfold kindErr; rw [if_neg (by rw [HKK.out]; decide), if_neg (by rw [HKK.out]; decide), if_pos (by rw [HKK.out])]; exact HCV.out)
            by_cases e0 : E = 0
            · subst e0
              have HER : Hid (gradeErr g = if spareB g then 0 else 12) := Lib.hid (by unfold gradeErr; rw [HKE.out, if_neg (by decide)])
              go_wp2_with (refine wpList_load_cells rfl 46 (.tmp 4) rfl p4 0 rfl Cz HLZ.out _ Tryz.underlying46 rfl (by rw [HSZ.out]; exact grade_size) ?_)
              refine HZ.out.mono ?_
              rintro e w9 ⟨rfl, hb9⟩
              rw [HZS.out]
              have HB9 : Hid (Below W.heap.size W w9) := Lib.hid (bcall HBF.out hb9)
              obtain ⟨sp, hsp⟩ : ∃ s, spareB g = s := ⟨_, rfl⟩
              rw [hsp] at HER ⊢
              clear hb9 hsp
              cases sp
              · simp only [Bool.not_false]
                go_wp2_with fail
                refine (ref_When _ _ _).mono ?_
                rintro e w10 ⟨rfl, rfl⟩
                go_wp2_with fail
                go_ret
                exact ⟨ErrIs (by rw [HER.out]; rfl), HB9.out⟩
              · simp only [Bool.not_true]
                go_wp2_with fail
                refine (ref_When _ _ _).mono ?_
                rintro e w10 ⟨rfl, rfl⟩
                go_wp2_with fail
                go_ret
                exact ⟨ErrIs (by rw [HER.out]; rfl), HB9.out⟩
            · have HER : Hid (gradeErr g = E) := Lib.hid (by unfold gradeErr; rw [HKE.out, if_pos (e0)])
              go_wp2_with fail
              go_ret
              exact ⟨ErrIs HER.out.symm, HBF.out⟩
      · go_wp2_with fail
        refine (ref_AllAt g.mix p1 32 12 12 W3 HG.out.mix.1 (by omega) ⟨X3.out.lt, fun k hk => by rw [X3.out.all.1]; exact HG.out.mix.2 k (by have := HG.out.mix.1; omega)⟩).mono ?_
        rintro e w7 ⟨rfl, hb7⟩
        have X7 := Lib.hid (X4.out.keep (hb7))
        have HW7 : Hid (Below W.heap.size W w7) := Lib.hid (bcall HW3.out (hb7))
        clear hb7 q0
        obtain ⟨b, hb⟩ : ∃ b, g.mix.all isNum = b := ⟨_, rfl⟩
        rw [hb]
        have HBB := Lib.hid hb
        clear hb
        cases b
        · simp only [Bool.not_false]
          go_wp2_with fail
          refine (ref_When _ _ _).mono ?_
          rintro e w10 ⟨rfl, rfl⟩
          rw [show whenV true 2 = 2 from rfl]
          have hx4 := (X7.out).all
          have hfz := hx4.2.1
          have d32 := hx4.1 32
          rw [HG0.out.mix.2 0 (by omega)] at d32
          have d33 := hx4.1 33
          rw [HG0.out.mix.2 1 (by omega)] at d33
          have d34 := hx4.1 34
          rw [HG0.out.mix.2 2 (by omega)] at d34
          have d35 := hx4.1 35
          rw [HG0.out.mix.2 3 (by omega)] at d35
          have d36 := hx4.1 36
          rw [HG0.out.mix.2 4 (by omega)] at d36
          have d37 := hx4.1 37
          rw [HG0.out.mix.2 5 (by omega)] at d37
          have d38 := hx4.1 38
          rw [HG0.out.mix.2 6 (by omega)] at d38
          have d39 := hx4.1 39
          rw [HG0.out.mix.2 7 (by omega)] at d39
          have d40 := hx4.1 40
          rw [HG0.out.mix.2 8 (by omega)] at d40
          have d41 := hx4.1 41
          rw [HG0.out.mix.2 9 (by omega)] at d41
          have d42 := hx4.1 42
          rw [HG0.out.mix.2 10 (by omega)] at d42
          have d43 := hx4.1 43
          rw [HG0.out.mix.2 11 (by omega)] at d43
          clear hx4
          go_upto_region 33 with fail
          clear hfz d32 d33 d34 d35 d36 d37 d38 d39 d40 d41 d42 d43
          refine name_world ?_
          intro w8 hw8
          have XF : Hid (Bx w8 p4 46 (putsAt C0 32 [.float .f32 0, .float .f32 0, .float .f32 0, .float .f32 0, .float .f32 0, .float .f32 0, .float .f32 0, .float .f32 0, .float .f32 0, .float .f32 0, .float .f32 0, .float .f32 0])) := Lib.hid (by rw [hw8]; exact ((((((((((((X7.out).set 32 (.float .f32 0)).set 33 (.float .f32 0)).set 34 (.float .f32 0)).set 35 (.float .f32 0)).set 36 (.float .f32 0)).set 37 (.float .f32 0)).set 38 (.float .f32 0)).set 39 (.float .f32 0)).set 40 (.float .f32 0)).set 41 (.float .f32 0)).set 42 (.float .f32 0)).set 43 (.float .f32 0))
          have HB8 : Hid (Below W.heap.size W w8) := Lib.hid (by rw [hw8]; exact (bput HPP.out.1 (bput HPP.out.1 (bput HPP.out.1 (bput HPP.out.1 (bput HPP.out.1 (bput HPP.out.1 (bput HPP.out.1 (bput HPP.out.1 (bput HPP.out.1 (bput HPP.out.1 (bput HPP.out.1 (bput HPP.out.1 HW7.out)))))))))))))
          obtain ⟨Cz, hCz⟩ : ∃ Cz, putsAt C0 32 [.float .f32 0, .float .f32 0, .float .f32 0, .float .f32 0, .float .f32 0, .float .f32 0, .float .f32 0, .float .f32 0, .float .f32 0, .float .f32 0, .float .f32 0, .float .f32 0] = Cz := ⟨_, rfl⟩
          have HGZ := Lib.hid HG0.out.zmix
          rw [hCz] at XF HGZ
          clear hw8 hCz
          have HBF : Hid (Below W.heap.size W w8) := Lib.hid (HB8.out)
          have HZ := Lib.hid (ref_zeroGrade _ _ w8 (GdAt.keep HGZ.out HBF.out))
          have HZS : Hid (zeroG _ = spareB g) := Lib.hid (zs4 HKK.out)
          have HLZ : Hid (∀ (j : Nat) (v : Value), Cz[j]? = some v → (w8 : World).cell? ⟨p4, 0 + j, none⟩ = some v) := Lib.hid (fun j v hj => by rw [(XF.out).all.1, Nat.zero_add]; exact hj)
          have HSZ : Hid (Cz.size = 49) := Lib.hid (HGZ.out).size
          have HKE : Hid (kindErr g = 2) := Lib.hid (by unfold kindErr; rw [if_neg (by rw [HKK.out]; decide), if_neg (by rw [HKK.out]; decide), if_neg (by rw [HKK.out]; decide), if_pos (by rw [HKK.out])]; rw [HBB.out]; rfl)
          have HER : Hid (gradeErr g = 2) := Lib.hid (by unfold gradeErr; rw [HKE.out, if_pos (by decide)])
          go_wp2_with fail
          go_ret
          exact ⟨ErrIs HER.out.symm, HBF.out⟩
        · simp only [Bool.not_true]
          go_wp2_with fail
          refine (ref_When _ _ _).mono ?_
          rintro e w10 ⟨rfl, rfl⟩
          rw [show whenV false 2 = 0 from rfl]
          have hx4 := (X7.out).all
          have hfz := hx4.2.1
          have d32 := hx4.1 32
          rw [HG0.out.mix.2 0 (by omega)] at d32
          have d33 := hx4.1 33
          rw [HG0.out.mix.2 1 (by omega)] at d33
          have d34 := hx4.1 34
          rw [HG0.out.mix.2 2 (by omega)] at d34
          have d35 := hx4.1 35
          rw [HG0.out.mix.2 3 (by omega)] at d35
          have d36 := hx4.1 36
          rw [HG0.out.mix.2 4 (by omega)] at d36
          have d37 := hx4.1 37
          rw [HG0.out.mix.2 5 (by omega)] at d37
          have d38 := hx4.1 38
          rw [HG0.out.mix.2 6 (by omega)] at d38
          have d39 := hx4.1 39
          rw [HG0.out.mix.2 7 (by omega)] at d39
          have d40 := hx4.1 40
          rw [HG0.out.mix.2 8 (by omega)] at d40
          have d41 := hx4.1 41
          rw [HG0.out.mix.2 9 (by omega)] at d41
          have d42 := hx4.1 42
          rw [HG0.out.mix.2 10 (by omega)] at d42
          have d43 := hx4.1 43
          rw [HG0.out.mix.2 11 (by omega)] at d43
          clear hx4
          go_upto_region 33 with fail
          clear hfz d32 d33 d34 d35 d36 d37 d38 d39 d40 d41 d42 d43
          refine name_world ?_
          intro w8 hw8
          have XF : Hid (Bx w8 p4 46 (putsAt C0 32 [.float .f32 0, .float .f32 0, .float .f32 0, .float .f32 0, .float .f32 0, .float .f32 0, .float .f32 0, .float .f32 0, .float .f32 0, .float .f32 0, .float .f32 0, .float .f32 0])) := Lib.hid (by rw [hw8]; exact ((((((((((((X7.out).set 32 (.float .f32 0)).set 33 (.float .f32 0)).set 34 (.float .f32 0)).set 35 (.float .f32 0)).set 36 (.float .f32 0)).set 37 (.float .f32 0)).set 38 (.float .f32 0)).set 39 (.float .f32 0)).set 40 (.float .f32 0)).set 41 (.float .f32 0)).set 42 (.float .f32 0)).set 43 (.float .f32 0))
          have HB8 : Hid (Below W.heap.size W w8) := Lib.hid (by rw [hw8]; exact (bput HPP.out.1 (bput HPP.out.1 (bput HPP.out.1 (bput HPP.out.1 (bput HPP.out.1 (bput HPP.out.1 (bput HPP.out.1 (bput HPP.out.1 (bput HPP.out.1 (bput HPP.out.1 (bput HPP.out.1 (bput HPP.out.1 HW7.out)))))))))))))
          obtain ⟨Cz, hCz⟩ : ∃ Cz, putsAt C0 32 [.float .f32 0, .float .f32 0, .float .f32 0, .float .f32 0, .float .f32 0, .float .f32 0, .float .f32 0, .float .f32 0, .float .f32 0, .float .f32 0, .float .f32 0, .float .f32 0] = Cz := ⟨_, rfl⟩
          have HGZ := Lib.hid HG0.out.zmix
          rw [hCz] at XF HGZ
          clear hw8 hCz
          have HBF : Hid (Below W.heap.size W w8) := Lib.hid (HB8.out)
          have HZ := Lib.hid (ref_zeroGrade _ _ w8 (GdAt.keep HGZ.out HBF.out))
          have HZS : Hid (zeroG _ = spareB g) := Lib.hid (zs4 HKK.out)
          have HLZ : Hid (∀ (j : Nat) (v : Value), Cz[j]? = some v → (w8 : World).cell? ⟨p4, 0 + j, none⟩ = some v) := Lib.hid (fun j v hj => by rw [(XF.out).all.1, Nat.zero_add]; exact hj)
          have HSZ : Hid (Cz.size = 49) := Lib.hid (HGZ.out).size
          have HKE : Hid (kindErr g = 0) := Lib.hid (by unfold kindErr; rw [if_neg (by rw [HKK.out]; decide), if_neg (by rw [HKK.out]; decide), if_neg (by rw [HKK.out]; decide), if_pos (by rw [HKK.out])]; rw [HBB.out]; rfl)
          have HER : Hid (gradeErr g = if spareB g then 0 else 12) := Lib.hid (by unfold gradeErr; rw [HKE.out, if_neg (by decide)])
          go_wp2_with (refine wpList_load_cells rfl 46 (.tmp 4) rfl p4 0 rfl Cz HLZ.out _ Tryz.underlying46 rfl (by rw [HSZ.out]; exact grade_size) ?_)
          refine HZ.out.mono ?_
          rintro e w9 ⟨rfl, hb9⟩
          rw [HZS.out]
          have HB9 : Hid (Below W.heap.size W w9) := Lib.hid (bcall HBF.out hb9)
          obtain ⟨sp, hsp⟩ : ∃ s, spareB g = s := ⟨_, rfl⟩
          rw [hsp] at HER ⊢
          clear hb9 hsp
          cases sp
          · simp only [Bool.not_false]
            go_wp2_with fail
            refine (ref_When _ _ _).mono ?_
            rintro e w10 ⟨rfl, rfl⟩
            go_wp2_with fail
            go_ret
            exact ⟨ErrIs (by rw [HER.out]; rfl), HB9.out⟩
          · simp only [Bool.not_true]
            go_wp2_with fail
            refine (ref_When _ _ _).mono ?_
            rintro e w10 ⟨rfl, rfl⟩
            go_wp2_with fail
            go_ret
            exact ⟨ErrIs (by rw [HER.out]; rfl), HB9.out⟩
      · have q44 : W3.cell? ⟨p1, 44, none⟩ = some (.float .f32 g.piv) := by rw [X3.out.all.1, HG.out.piv]
        have q45 : W3.cell? ⟨p1, 45, none⟩ = some (.float .f32 g.amt) := by rw [X3.out.all.1, HG.out.amt]
        go_wp2_with fail
        refine (ref_AllAt [g.piv, g.amt] _ 0 2 2 _ rfl (by omega) ⟨(Bx.new W3 23 _).lt, fun k hk => by rw [(Bx.new W3 23 _).all.1, Nat.zero_add]; exact (match k, hk with | 0, _ => rfl | 1, _ => rfl)⟩).mono ?_
        rintro e w7 ⟨rfl, hb7⟩
        have X7 := Lib.hid (X4.out.keep (bcall (bnew (Below.refl _ _)) hb7))
        have HW7 : Hid (Below W.heap.size W w7) := Lib.hid (bcall HW3.out (bcall (bnew (Below.refl _ _)) hb7))
        clear hb7 q0 q44 q45
        obtain ⟨b, hb⟩ : ∃ b, [g.piv, g.amt].all isNum = b := ⟨_, rfl⟩
        have hb2 : (isNum g.piv && isNum g.amt) = b := by rw [← hb]; simp only [List.all_cons, List.all_nil, Bool.and_true]
        rw [hb]
        have HBB := Lib.hid hb2
        clear hb hb2
        cases b
        · simp only [Bool.not_false]
          go_wp2_with fail
          refine (ref_When _ _ _).mono ?_
          rintro e w10 ⟨rfl, rfl⟩
          rw [show whenV true 2 = 2 from rfl]
          have hx4 := (X7.out).all
          have hfz := hx4.2.1
          have d44 := hx4.1 44
          rw [HG0.out.piv] at d44
          have d45 := hx4.1 45
          rw [HG0.out.amt] at d45
          clear hx4
          go_upto_region 33 with fail
          clear hfz d44 d45
          refine name_world ?_
          intro w8 hw8
          have XF : Hid (Bx w8 p4 46 (putsAt C0 44 [.float .f32 0, .float .f32 0])) := Lib.hid (by rw [hw8]; exact ((X7.out).set 44 (.float .f32 0)).set 45 (.float .f32 0))
          have HB8 : Hid (Below W.heap.size W w8) := Lib.hid (by rw [hw8]; exact (bput HPP.out.1 (bput HPP.out.1 HW7.out)))
          obtain ⟨Cz, hCz⟩ : ∃ Cz, putsAt C0 44 [.float .f32 0, .float .f32 0] = Cz := ⟨_, rfl⟩
          have HGZ := Lib.hid HG0.out.zpa
          rw [hCz] at XF HGZ
          clear hw8 hCz
          have HBF : Hid (Below W.heap.size W w8) := Lib.hid (HB8.out)
          have HZ := Lib.hid (ref_zeroGrade _ _ w8 (GdAt.keep HGZ.out HBF.out))
          have HZS : Hid (zeroG _ = spareB g) := Lib.hid (zs5 HKK.out)
          have HLZ : Hid (∀ (j : Nat) (v : Value), Cz[j]? = some v → (w8 : World).cell? ⟨p4, 0 + j, none⟩ = some v) := Lib.hid (fun j v hj => by rw [(XF.out).all.1, Nat.zero_add]; exact hj)
          have HSZ : Hid (Cz.size = 49) := Lib.hid (HGZ.out).size
          have HKE : Hid (kindErr g = 2) := Lib.hid (by unfold kindErr; rw [if_neg (by rw [HKK.out]; decide), if_neg (by rw [HKK.out]; decide), if_neg (by rw [HKK.out]; decide), if_neg (by rw [HKK.out]; decide), if_pos (by rw [HKK.out])]; rw [HBB.out]; rfl)
          have HER : Hid (gradeErr g = 2) := Lib.hid (by unfold gradeErr; rw [HKE.out, if_pos (by decide)])
          go_wp2_with fail
          go_ret
          exact ⟨ErrIs HER.out.symm, HBF.out⟩
        · simp only [Bool.not_true]
          go_wp2_with fail
          refine (ref_When _ _ _).mono ?_
          rintro e w10 ⟨rfl, rfl⟩
          rw [show whenV false 2 = 0 from rfl]
          have hx4 := (X7.out).all
          have hfz := hx4.2.1
          have d44 := hx4.1 44
          rw [HG0.out.piv] at d44
          have d45 := hx4.1 45
          rw [HG0.out.amt] at d45
          clear hx4
          go_upto_region 33 with fail
          clear hfz d44 d45
          refine name_world ?_
          intro w8 hw8
          have XF : Hid (Bx w8 p4 46 (putsAt C0 44 [.float .f32 0, .float .f32 0])) := Lib.hid (by rw [hw8]; exact ((X7.out).set 44 (.float .f32 0)).set 45 (.float .f32 0))
          have HB8 : Hid (Below W.heap.size W w8) := Lib.hid (by rw [hw8]; exact (bput HPP.out.1 (bput HPP.out.1 HW7.out)))
          obtain ⟨Cz, hCz⟩ : ∃ Cz, putsAt C0 44 [.float .f32 0, .float .f32 0] = Cz := ⟨_, rfl⟩
          have HGZ := Lib.hid HG0.out.zpa
          rw [hCz] at XF HGZ
          clear hw8 hCz
          have HBF : Hid (Below W.heap.size W w8) := Lib.hid (HB8.out)
          have HZ := Lib.hid (ref_zeroGrade _ _ w8 (GdAt.keep HGZ.out HBF.out))
          have HZS : Hid (zeroG _ = spareB g) := Lib.hid (zs5 HKK.out)
          have HLZ : Hid (∀ (j : Nat) (v : Value), Cz[j]? = some v → (w8 : World).cell? ⟨p4, 0 + j, none⟩ = some v) := Lib.hid (fun j v hj => by rw [(XF.out).all.1, Nat.zero_add]; exact hj)
          have HSZ : Hid (Cz.size = 49) := Lib.hid (HGZ.out).size
          have HKE : Hid (kindErr g = 0) := Lib.hid (by unfold kindErr; rw [if_neg (by rw [HKK.out]; decide), if_neg (by rw [HKK.out]; decide), if_neg (by rw [HKK.out]; decide), if_neg (by rw [HKK.out]; decide), if_pos (by rw [HKK.out])]; rw [HBB.out]; rfl)
          have HER : Hid (gradeErr g = if spareB g then 0 else 12) := Lib.hid (by unfold gradeErr; rw [HKE.out, if_neg (by decide)])
          go_wp2_with (refine wpList_load_cells rfl 46 (.tmp 4) rfl p4 0 rfl Cz HLZ.out _ Tryz.underlying46 rfl (by rw [HSZ.out]; exact grade_size) ?_)
          refine HZ.out.mono ?_
          rintro e w9 ⟨rfl, hb9⟩
          rw [HZS.out]
          have HB9 : Hid (Below W.heap.size W w9) := Lib.hid (bcall HBF.out hb9)
          obtain ⟨sp, hsp⟩ : ∃ s, spareB g = s := ⟨_, rfl⟩
          rw [hsp] at HER ⊢
          clear hb9 hsp
          cases sp
          · simp only [Bool.not_false]
            go_wp2_with fail
            refine (ref_When _ _ _).mono ?_
            rintro e w10 ⟨rfl, rfl⟩
            go_wp2_with fail
            go_ret
            exact ⟨ErrIs (by rw [HER.out]; rfl), HB9.out⟩
          · simp only [Bool.not_true]
            go_wp2_with fail
            refine (ref_When _ _ _).mono ?_
            rintro e w10 ⟨rfl, rfl⟩
            go_wp2_with fail
            go_ret
            exact ⟨ErrIs (by rw [HER.out]; rfl), HB9.out⟩
      · obtain ⟨hD1, hD2⟩ := part_cells X3.out 46 3 (by rw [HG.out.size]; omega)
        obtain ⟨D, hD⟩ : ∃ D, C.extract 46 (46 + 3) = D := ⟨_, rfl⟩
        have hDg : ∀ k, k < 3 → D[k]? = some (.int .i64 (g.pts.getD k 0)) := fun k hk => by rw [← hD, part_get HG.out 46 3 (by omega) k hk]; exact HG.out.pts.2 k hk
        rw [hD] at hD1 hD2
        have HD := Lib.hid (And.intro hD1 (And.intro hD2 hDg))
        clear hD1 hD2 hDg hD
        go_wp2_with (refine wpList_load_cells rfl 44 (.tmp 88) rfl p1 46 rfl D HD.out.2.1 _ Tryz.underlying44 rfl (by rw [HD.out.1]; exact size_i3) ?_)
        clear q0
        go_loopw [3, 90] (fun s3 i wr => ∃ (j : Nat) (E : Int), j ≤ 3 ∧ i = .int .i64 (j : Int) ∧ s3 = .int .i64 E ∧ Hid ((if (g.pts.take j).any ptBad then (3 : Int) else 0) = E) ∧ Hid (Below W3.heap.size W3 wr)) (fun _ i _ => 3 - (RowKit.intOf i).toNat)
        case atStart => exact ⟨0, 0, by omega, rfl, rfl, Lib.hid rfl, Lib.hid (Below.refl _ _)⟩
        case round =>
          obtain ⟨j, E, hj, rfl, rfl, HA, HB⟩ := hrel
          by_cases hlj : j < 3
          · have hd1 : decide ((j : Int) < 3) = true := decide_eq_true (by omega)
            have h1 := any_takeG ptBad g.pts 0 j (by have := HG.out.pts.1; omega)
            have hx := HD.out.2.2 j hlj
            generalize g.pts.getD j 0 = z at *
            have H1 := Lib.hid h1
            have HX := Lib.hid hx
            clear h1 hx
            by_cases hz1 : z < 0
            · have HN : Hid ((if (g.pts.take (j + 1)).any ptBad then (3 : Int) else 0) = 3) := Lib.hid (by rw [H1.out, show ptBad z = true by unfold ptBad; rw [decide_eq_true hz1]; rfl, Bool.or_true]; rfl)
              go_wp2_with (refine wpList_index_pt rfl (.tmp 89) (.tmp 90) rfl rfl rfl hlj HX.out ?_)
              go_roundw
              case rel => exact ⟨j + 1, 3, by omega, by go_num, rfl, HN, HB⟩
              case measure => simp [RowKit.intOf]; omega
            · by_cases hz2 : 50 < z
              · have HN : Hid ((if (g.pts.take (j + 1)).any ptBad then (3 : Int) else 0) = 3) := Lib.hid (by rw [H1.out, show ptBad z = true by unfold ptBad; rw [decide_eq_true hz2]; simp, Bool.or_true]; rfl)
                go_wp2_with (refine wpList_index_pt rfl (.tmp 89) (.tmp 90) rfl rfl rfl hlj HX.out ?_)
                go_roundw
                case rel => exact ⟨j + 1, 3, by omega, by go_num, rfl, HN, HB⟩
                case measure => simp [RowKit.intOf]; omega
              · have HN : Hid ((if (g.pts.take (j + 1)).any ptBad then (3 : Int) else 0) = E) := Lib.hid (by rw [H1.out, show ptBad z = false by unfold ptBad; rw [decide_eq_false hz1, decide_eq_false hz2]; rfl, Bool.or_false]; exact HA.out)
                go_wp2_with (refine wpList_index_pt rfl (.tmp 89) (.tmp 90) rfl rfl rfl hlj HX.out ?_)
                go_roundw
                case rel => exact ⟨j + 1, E, by omega, by go_num, rfl, HN, HB⟩
                case measure => simp [RowKit.intOf]; omega
          · obtain rfl : j = 3 := by omega
            have HEE : Hid (ptsErr g.pts = E) := Lib.hid (by have := HA.out; rw [show g.pts.take 3 = g.pts by rw [← HG.out.pts.1, List.take_length]] at this; exact this)
            have X7 := Lib.hid (X4.out.keep HB.out)
            have HW7 : Hid (Below W.heap.size W wr) := Lib.hid (bcall HW3.out HB.out)
            have hx4 := (X7.out).all
            have hfz := hx4.2.1
            have d46 := hx4.1 46
            rw [HG0.out.pts.2 0 (by omega)] at d46
            have d47 := hx4.1 47
            rw [HG0.out.pts.2 1 (by omega)] at d47
            have d48 := hx4.1 48
            rw [HG0.out.pts.2 2 (by omega)] at d48
            clear hx4
            go_upto_region 33 with fail
            clear hfz d46 d47 d48
            refine name_world ?_
            intro w8 hw8
            have XF : Hid (Bx w8 p4 46 (putsAt C0 46 [.int .i64 0, .int .i64 0, .int .i64 0])) := Lib.hid (by rw [hw8]; exact (((X7.out).set 46 (.int .i64 0)).set 47 (.int .i64 0)).set 48 (.int .i64 0))
            have HB8 : Hid (Below W.heap.size W w8) := Lib.hid (by rw [hw8]; exact (bput HPP.out.1 (bput HPP.out.1 (bput HPP.out.1 HW7.out))))
            obtain ⟨Cz, hCz⟩ : ∃ Cz, putsAt C0 46 [.int .i64 0, .int .i64 0, .int .i64 0] = Cz := ⟨_, rfl⟩
            have HGZ := Lib.hid HG0.out.zpts
            rw [hCz] at XF HGZ
            clear hw8 hCz
            have HBF : Hid (Below W.heap.size W w8) := Lib.hid (HB8.out)
            have HZ := Lib.hid (ref_zeroGrade _ _ w8 (GdAt.keep HGZ.out HBF.out))
            have HZS : Hid (zeroG _ = spareB g) := Lib.hid (zs6 HKK.out)
            have HLZ : Hid (∀ (j : Nat) (v : Value), Cz[j]? = some v → (w8 : World).cell? ⟨p4, 0 + j, none⟩ = some v) := Lib.hid (fun j v hj => by rw [(XF.out).all.1, Nat.zero_add]; exact hj)
            have HSZ : Hid (Cz.size = 49) := Lib.hid (HGZ.out).size
            have HKE : Hid (kindErr g = E) := Lib.hid (by unfold kindErr; rw [if_neg (by rw [HKK.out]; decide), if_neg (by rw [HKK.out]; decide), if_neg (by rw [HKK.out]; decide), if_neg (by rw [HKK.out]; decide), if_neg (by rw [HKK.out]; decide), if_pos (by rw [HKK.out])]; exact HEE.out)
            by_cases e0 : E = 0
            · subst e0
              have HER : Hid (gradeErr g = if spareB g then 0 else 12) := Lib.hid (by unfold gradeErr; rw [HKE.out, if_neg (by decide)])
              go_wp2_with (refine wpList_load_cells rfl 46 (.tmp 4) rfl p4 0 rfl Cz HLZ.out _ Tryz.underlying46 rfl (by rw [HSZ.out]; exact grade_size) ?_)
              refine HZ.out.mono ?_
              rintro e w9 ⟨rfl, hb9⟩
              rw [HZS.out]
              have HB9 : Hid (Below W.heap.size W w9) := Lib.hid (bcall HBF.out hb9)
              obtain ⟨sp, hsp⟩ : ∃ s, spareB g = s := ⟨_, rfl⟩
              rw [hsp] at HER ⊢
              clear hb9 hsp
              cases sp
              · simp only [Bool.not_false]
                go_wp2_with fail
                refine (ref_When _ _ _).mono ?_
                rintro e w10 ⟨rfl, rfl⟩
                go_wp2_with fail
                go_ret
                exact ⟨ErrIs (by rw [HER.out]; rfl), HB9.out⟩
              · simp only [Bool.not_true]
                go_wp2_with fail
                refine (ref_When _ _ _).mono ?_
                rintro e w10 ⟨rfl, rfl⟩
                go_wp2_with fail
                go_ret
                exact ⟨ErrIs (by rw [HER.out]; rfl), HB9.out⟩
            · have HER : Hid (gradeErr g = E) := Lib.hid (by unfold gradeErr; rw [HKE.out, if_pos (e0)])
              go_wp2_with fail
              go_ret
              exact ⟨ErrIs HER.out.symm, HBF.out⟩
end
end Go.Proofs.YticekgnmiaidjaaGreatDoor
