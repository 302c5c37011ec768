/- A grade with a part made zero, in memory; what is left is zero just where nothing is spare. (printed by gen_gni.py) -/
import Derived.Test.YticekgnmiaidjaaGreatDoorGnH
namespace Go.Proofs.YticekgnmiaidjaaGreatDoor
open Go.RowKit Go.Lib

def putsAt (C : Array Value) : Nat → List Value → Array Value
  | _, [] => C
  | f, v :: vs => putsAt (C.setIfInBounds f v) (f + 1) vs
theorem putsAt_size (vs : List Value) : ∀ (C : Array Value) (f : Nat), (putsAt C f vs).size = C.size := by
  induction vs with
  | nil => intro C f; rfl
  | cons v vs ih => intro C f; show (putsAt (C.setIfInBounds f v) (f + 1) vs).size = _; rw [ih]; simp
theorem putsAt_get (vs : List Value) : ∀ (C : Array Value) (f j : Nat), f + vs.length ≤ C.size → (putsAt C f vs)[j]? = if f ≤ j ∧ j < f + vs.length then vs[j - f]? else C[j]? := by
  induction vs with
  | nil => intro C f j _; rw [if_neg (by simp only [List.length_nil]; omega)]; rfl
  | cons v vs ih =>
    intro C f j h
    simp only [List.length_cons] at h ⊢
    show (putsAt (C.setIfInBounds f v) (f + 1) vs)[j]? = _
    rw [ih _ _ _ (by simp; omega)]
    by_cases h1 : f + 1 ≤ j ∧ j < f + 1 + vs.length
    · rw [if_pos h1, if_pos (by omega), show j - f = (j - (f + 1)) + 1 by omega, List.getElem?_cons_succ]
    · rw [if_neg h1]
      by_cases h2 : j = f
      · subst h2
        rw [if_pos (by omega), Nat.sub_self, List.getElem?_cons_zero, Array.getElem?_setIfInBounds_self_of_lt (by omega)]
      · rw [if_neg (by omega), Array.getElem?_setIfInBounds_ne (Ne.symm h2)]
theorem all_of_get {C : Array Value} {p : Value → Bool} : C.all p = true ↔ ∀ (j : Nat) (v : Value), C[j]? = some v → p v = true := by
  rw [Array.all_eq_true]
  constructor
  · intro h j v hv
    obtain ⟨hj, rfl⟩ := Array.getElem?_eq_some_iff.1 hv
    exact h j hj
  · intro h j hj
    exact h j _ (Array.getElem?_eq_getElem hj)
theorem putsAt_all {C : Array Value} {p : Value → Bool} {vs : List Value} {f : Nat} (hf : f + vs.length ≤ C.size) (h : C.all p = true) (hv : ∀ v ∈ vs, p v = true) : (putsAt C f vs).all p = true := by
  rw [all_of_get] at h ⊢
  intro j v hj
  rw [putsAt_get vs C f j hf] at hj
  split at hj
  · exact hv v (List.mem_of_getElem? hj)
  · exact h j v hj
theorem GdAt.zkind {w : World} {C : Array Value} {g : Gd} (h : GdAt w C g) : GdAt w (putsAt C 0 [.int .i64 0]) { g with kind := 0 } := by
  have hs := h.size
  have hf : 0 + ([.int .i64 0] : List Value).length ≤ C.size := by rw [hs]; simp; try omega
  have hL : ([.int .i64 0] : List Value).length = 1 := by simp
  have G := fun jj => putsAt_get [.int .i64 0] C (0) jj hf
  rw [hL] at G
  refine ⟨by rw [putsAt_size]; exact hs, putsAt_all hf h.one (fun v hv => by simp only [List.mem_singleton] at hv; subst hv; rfl), ?_, ?_, ?_, ?_, ?_, ?_, ?_, ?_⟩
  · exact by rw [G 0, if_pos (by omega)]; rfl
  · exact ⟨h.whe.1, fun i hi => by rw [G (1 + i), if_neg (by omega)]; exact h.whe.2 i hi⟩
  · exact ⟨h.lst.1, fun i hi => by rw [G (10 + i), if_neg (by omega)]; exact h.lst.2 i hi⟩
  · exact ⟨h.cvs.1, fun i c hc => by
      have hi : i < 4 := by have := (List.getElem?_eq_some_iff.1 hc).1; rw [h.cvs.1] at this; exact this
      obtain ⟨a, ⟨vx, b, s⟩, vy, d, s2⟩ := h.cvs.2 i c hc
      exact ⟨by rw [G (20 + 3 * i), if_neg (by omega)]; exact a, ⟨vx, by rw [G (21 + 3 * i), if_neg (by omega)]; exact b, s⟩, vy, by rw [G (22 + 3 * i), if_neg (by omega)]; exact d, s2⟩⟩
  · exact ⟨h.mix.1, fun i hi => by rw [G (32 + i), if_neg (by omega)]; exact h.mix.2 i hi⟩
  · exact by rw [G 44, if_neg (by omega)]; exact h.piv
  · exact by rw [G 45, if_neg (by omega)]; exact h.amt
  · exact ⟨h.pts.1, fun i hi => by rw [G (46 + i), if_neg (by omega)]; exact h.pts.2 i hi⟩
theorem GdAt.zwhe {w : World} {C : Array Value} {g : Gd} (h : GdAt w C g) : GdAt w (putsAt C 1 [.float .f32 0, .float .f32 0, .float .f32 0, .float .f32 0, .float .f32 0, .float .f32 0, .float .f32 0, .float .f32 0, .float .f32 0]) { g with whe := List.replicate 9 0 } := by
  have hs := h.size
  have hf : 1 + ([.float .f32 0, .float .f32 0, .float .f32 0, .float .f32 0, .float .f32 0, .float .f32 0, .float .f32 0, .float .f32 0, .float .f32 0] : List Value).length ≤ C.size := by rw [hs]; simp; try omega
  have hL : ([.float .f32 0, .float .f32 0, .float .f32 0, .float .f32 0, .float .f32 0, .float .f32 0, .float .f32 0, .float .f32 0, .float .f32 0] : List Value).length = 9 := by simp
  have G := fun jj => putsAt_get [.float .f32 0, .float .f32 0, .float .f32 0, .float .f32 0, .float .f32 0, .float .f32 0, .float .f32 0, .float .f32 0, .float .f32 0] C (1) jj hf
  rw [hL] at G
  refine ⟨by rw [putsAt_size]; exact hs, putsAt_all hf h.one (fun v hv => by simp only [List.mem_cons, List.not_mem_nil, or_false, or_self] at hv; subst hv; rfl), ?_, ?_, ?_, ?_, ?_, ?_, ?_, ?_⟩
  · exact by rw [G 0, if_neg (by omega)]; exact h.kind
  · exact ⟨by simp, fun i hi => by rw [G (1 + i), if_pos (by omega)]; rcases (by omega : i = 0 ∨ i = 1 ∨ i = 2 ∨ i = 3 ∨ i = 4 ∨ i = 5 ∨ i = 6 ∨ i = 7 ∨ i = 8) with rfl | rfl | rfl | rfl | rfl | rfl | rfl | rfl | rfl <;> rfl⟩
  · exact ⟨h.lst.1, fun i hi => by rw [G (10 + i), if_neg (by omega)]; exact h.lst.2 i hi⟩
  · exact ⟨h.cvs.1, fun i c hc => by
      have hi : i < 4 := by have := (List.getElem?_eq_some_iff.1 hc).1; rw [h.cvs.1] at this; exact this
      obtain ⟨a, ⟨vx, b, s⟩, vy, d, s2⟩ := h.cvs.2 i c hc
      exact ⟨by rw [G (20 + 3 * i), if_neg (by omega)]; exact a, ⟨vx, by rw [G (21 + 3 * i), if_neg (by omega)]; exact b, s⟩, vy, by rw [G (22 + 3 * i), if_neg (by omega)]; exact d, s2⟩⟩
  · exact ⟨h.mix.1, fun i hi => by rw [G (32 + i), if_neg (by omega)]; exact h.mix.2 i hi⟩
  · exact by rw [G 44, if_neg (by omega)]; exact h.piv
  · exact by rw [G 45, if_neg (by omega)]; exact h.amt
  · exact ⟨h.pts.1, fun i hi => by rw [G (46 + i), if_neg (by omega)]; exact h.pts.2 i hi⟩
theorem GdAt.zlst {w : World} {C : Array Value} {g : Gd} (h : GdAt w C g) : GdAt w (putsAt C 10 [.float .f32 0, .float .f32 0, .float .f32 0, .float .f32 0, .float .f32 0, .float .f32 0, .float .f32 0, .float .f32 0, .float .f32 0, .float .f32 0]) { g with lst := List.replicate 10 0 } := by
  have hs := h.size
  have hf : 10 + ([.float .f32 0, .float .f32 0, .float .f32 0, .float .f32 0, .float .f32 0, .float .f32 0, .float .f32 0, .float .f32 0, .float .f32 0, .float .f32 0] : List Value).length ≤ C.size := by rw [hs]; simp; try omega
  have hL : ([.float .f32 0, .float .f32 0, .float .f32 0, .float .f32 0, .float .f32 0, .float .f32 0, .float .f32 0, .float .f32 0, .float .f32 0, .float .f32 0] : List Value).length = 10 := by simp
  have G := fun jj => putsAt_get [.float .f32 0, .float .f32 0, .float .f32 0, .float .f32 0, .float .f32 0, .float .f32 0, .float .f32 0, .float .f32 0, .float .f32 0, .float .f32 0] C (10) jj hf
  rw [hL] at G
  refine ⟨by rw [putsAt_size]; exact hs, putsAt_all hf h.one (fun v hv => by simp only [List.mem_cons, List.not_mem_nil, or_false, or_self] at hv; subst hv; rfl), ?_, ?_, ?_, ?_, ?_, ?_, ?_, ?_⟩
  · exact by rw [G 0, if_neg (by omega)]; exact h.kind
  · exact ⟨h.whe.1, fun i hi => by rw [G (1 + i), if_neg (by omega)]; exact h.whe.2 i hi⟩
  · exact ⟨by simp, fun i hi => by rw [G (10 + i), if_pos (by omega)]; rcases (by omega : i = 0 ∨ i = 1 ∨ i = 2 ∨ i = 3 ∨ i = 4 ∨ i = 5 ∨ i = 6 ∨ i = 7 ∨ i = 8 ∨ i = 9) with rfl | rfl | rfl | rfl | rfl | rfl | rfl | rfl | rfl | rfl <;> rfl⟩
  · exact ⟨h.cvs.1, fun i c hc => by
      have hi : i < 4 := by have := (List.getElem?_eq_some_iff.1 hc).1; rw [h.cvs.1] at this; exact this
      obtain ⟨a, ⟨vx, b, s⟩, vy, d, s2⟩ := h.cvs.2 i c hc
      exact ⟨by rw [G (20 + 3 * i), if_neg (by omega)]; exact a, ⟨vx, by rw [G (21 + 3 * i), if_neg (by omega)]; exact b, s⟩, vy, by rw [G (22 + 3 * i), if_neg (by omega)]; exact d, s2⟩⟩
  · exact ⟨h.mix.1, fun i hi => by rw [G (32 + i), if_neg (by omega)]; exact h.mix.2 i hi⟩
  · exact by rw [G 44, if_neg (by omega)]; exact h.piv
  · exact by rw [G 45, if_neg (by omega)]; exact h.amt
  · exact ⟨h.pts.1, fun i hi => by rw [G (46 + i), if_neg (by omega)]; exact h.pts.2 i hi⟩
theorem GdAt.zmix {w : World} {C : Array Value} {g : Gd} (h : GdAt w C g) : GdAt w (putsAt C 32 [.float .f32 0, .float .f32 0, .float .f32 0, .float .f32 0, .float .f32 0, .float .f32 0, .float .f32 0, .float .f32 0, .float .f32 0, .float .f32 0, .float .f32 0, .float .f32 0]) { g with mix := List.replicate 12 0 } := by
  have hs := h.size
  have hf : 32 + ([.float .f32 0, .float .f32 0, .float .f32 0, .float .f32 0, .float .f32 0, .float .f32 0, .float .f32 0, .float .f32 0, .float .f32 0, .float .f32 0, .float .f32 0, .float .f32 0] : List Value).length ≤ C.size := by rw [hs]; simp; try omega
  have hL : ([.float .f32 0, .float .f32 0, .float .f32 0, .float .f32 0, .float .f32 0, .float .f32 0, .float .f32 0, .float .f32 0, .float .f32 0, .float .f32 0, .float .f32 0, .float .f32 0] : List Value).length = 12 := by simp
  have G := fun jj => putsAt_get [.float .f32 0, .float .f32 0, .float .f32 0, .float .f32 0, .float .f32 0, .float .f32 0, .float .f32 0, .float .f32 0, .float .f32 0, .float .f32 0, .float .f32 0, .float .f32 0] C (32) jj hf
  rw [hL] at G
  refine ⟨by rw [putsAt_size]; exact hs, putsAt_all hf h.one (fun v hv => by simp only [List.mem_cons, List.not_mem_nil, or_false, or_self] at hv; subst hv; rfl), ?_, ?_, ?_, ?_, ?_, ?_, ?_, ?_⟩
  · exact by rw [G 0, if_neg (by omega)]; exact h.kind
  · exact ⟨h.whe.1, fun i hi => by rw [G (1 + i), if_neg (by omega)]; exact h.whe.2 i hi⟩
  · exact ⟨h.lst.1, fun i hi => by rw [G (10 + i), if_neg (by omega)]; exact h.lst.2 i hi⟩
  · exact ⟨h.cvs.1, fun i c hc => by
      have hi : i < 4 := by have := (List.getElem?_eq_some_iff.1 hc).1; rw [h.cvs.1] at this; exact this
      obtain ⟨a, ⟨vx, b, s⟩, vy, d, s2⟩ := h.cvs.2 i c hc
      exact ⟨by rw [G (20 + 3 * i), if_neg (by omega)]; exact a, ⟨vx, by rw [G (21 + 3 * i), if_neg (by omega)]; exact b, s⟩, vy, by rw [G (22 + 3 * i), if_neg (by omega)]; exact d, s2⟩⟩
  · exact ⟨by simp, fun i hi => by rw [G (32 + i), if_pos (by omega)]; rcases (by omega : i = 0 ∨ i = 1 ∨ i = 2 ∨ i = 3 ∨ i = 4 ∨ i = 5 ∨ i = 6 ∨ i = 7 ∨ i = 8 ∨ i = 9 ∨ i = 10 ∨ i = 11) with rfl | rfl | rfl | rfl | rfl | rfl | rfl | rfl | rfl | rfl | rfl | rfl <;> rfl⟩
  · exact by rw [G 44, if_neg (by omega)]; exact h.piv
  · exact by rw [G 45, if_neg (by omega)]; exact h.amt
  · exact ⟨h.pts.1, fun i hi => by rw [G (46 + i), if_neg (by omega)]; exact h.pts.2 i hi⟩
theorem GdAt.zpts {w : World} {C : Array Value} {g : Gd} (h : GdAt w C g) : GdAt w (putsAt C 46 [.int .i64 0, .int .i64 0, .int .i64 0]) { g with pts := List.replicate 3 0 } := by
  have hs := h.size
  have hf : 46 + ([.int .i64 0, .int .i64 0, .int .i64 0] : List Value).length ≤ C.size := by rw [hs]; simp; try omega
  have hL : ([.int .i64 0, .int .i64 0, .int .i64 0] : List Value).length = 3 := by simp
  have G := fun jj => putsAt_get [.int .i64 0, .int .i64 0, .int .i64 0] C (46) jj hf
  rw [hL] at G
  refine ⟨by rw [putsAt_size]; exact hs, putsAt_all hf h.one (fun v hv => by simp only [List.mem_cons, List.not_mem_nil, or_false, or_self] at hv; subst hv; rfl), ?_, ?_, ?_, ?_, ?_, ?_, ?_, ?_⟩
  · exact by rw [G 0, if_neg (by omega)]; exact h.kind
  · exact ⟨h.whe.1, fun i hi => by rw [G (1 + i), if_neg (by omega)]; exact h.whe.2 i hi⟩
  · exact ⟨h.lst.1, fun i hi => by rw [G (10 + i), if_neg (by omega)]; exact h.lst.2 i hi⟩
  · exact ⟨h.cvs.1, fun i c hc => by
      have hi : i < 4 := by have := (List.getElem?_eq_some_iff.1 hc).1; rw [h.cvs.1] at this; exact this
      obtain ⟨a, ⟨vx, b, s⟩, vy, d, s2⟩ := h.cvs.2 i c hc
      exact ⟨by rw [G (20 + 3 * i), if_neg (by omega)]; exact a, ⟨vx, by rw [G (21 + 3 * i), if_neg (by omega)]; exact b, s⟩, vy, by rw [G (22 + 3 * i), if_neg (by omega)]; exact d, s2⟩⟩
  · exact ⟨h.mix.1, fun i hi => by rw [G (32 + i), if_neg (by omega)]; exact h.mix.2 i hi⟩
  · exact by rw [G 44, if_neg (by omega)]; exact h.piv
  · exact by rw [G 45, if_neg (by omega)]; exact h.amt
  · exact ⟨by simp, fun i hi => by rw [G (46 + i), if_pos (by omega)]; rcases (by omega : i = 0 ∨ i = 1 ∨ i = 2) with rfl | rfl | rfl <;> rfl⟩
theorem GdAt.zpa {w : World} {C : Array Value} {g : Gd} (h : GdAt w C g) : GdAt w (putsAt C 44 [.float .f32 0, .float .f32 0]) { g with piv := 0, amt := 0 } := by
  have hs := h.size
  have hf : 44 + ([.float .f32 0, .float .f32 0] : List Value).length ≤ C.size := by rw [hs]; simp; try omega
  have hL : ([.float .f32 0, .float .f32 0] : List Value).length = 2 := by simp
  have G := fun jj => putsAt_get [.float .f32 0, .float .f32 0] C (44) jj hf
  rw [hL] at G
  refine ⟨by rw [putsAt_size]; exact hs, putsAt_all hf h.one (fun v hv => by simp only [List.mem_cons, List.not_mem_nil, or_false, or_self] at hv; subst hv; rfl), ?_, ?_, ?_, ?_, ?_, ?_, ?_, ?_⟩
  · exact by rw [G 0, if_neg (by omega)]; exact h.kind
  · exact ⟨h.whe.1, fun i hi => by rw [G (1 + i), if_neg (by omega)]; exact h.whe.2 i hi⟩
  · exact ⟨h.lst.1, fun i hi => by rw [G (10 + i), if_neg (by omega)]; exact h.lst.2 i hi⟩
  · exact ⟨h.cvs.1, fun i c hc => by
      have hi : i < 4 := by have := (List.getElem?_eq_some_iff.1 hc).1; rw [h.cvs.1] at this; exact this
      obtain ⟨a, ⟨vx, b, s⟩, vy, d, s2⟩ := h.cvs.2 i c hc
      exact ⟨by rw [G (20 + 3 * i), if_neg (by omega)]; exact a, ⟨vx, by rw [G (21 + 3 * i), if_neg (by omega)]; exact b, s⟩, vy, by rw [G (22 + 3 * i), if_neg (by omega)]; exact d, s2⟩⟩
  · exact ⟨h.mix.1, fun i hi => by rw [G (32 + i), if_neg (by omega)]; exact h.mix.2 i hi⟩
  · exact by rw [G 44, if_pos (by omega)]; rfl
  · exact by rw [G 45, if_pos (by omega)]; rfl
  · exact ⟨h.pts.1, fun i hi => by rw [G (46 + i), if_neg (by omega)]; exact h.pts.2 i hi⟩
theorem GdAt.zcv {w : World} {C : Array Value} {g : Gd} (h : GdAt w C g) (j : Nat) (hj : j < 4) : GdAt w (putsAt C (20 + 3 * j) [.int .i64 0, .slice none 0 0, .slice none 0 0]) { g with cvs := g.cvs.set j ⟨0, [], []⟩ } := by
  have hs := h.size
  have hf : (20 + 3 * j) + ([.int .i64 0, .slice none 0 0, .slice none 0 0] : List Value).length ≤ C.size := by rw [hs]; simp; try omega
  have hL : ([.int .i64 0, .slice none 0 0, .slice none 0 0] : List Value).length = 3 := by simp
  have G := fun jj => putsAt_get [.int .i64 0, .slice none 0 0, .slice none 0 0] C ((20 + 3 * j)) jj hf
  rw [hL] at G
  refine ⟨by rw [putsAt_size]; exact hs, putsAt_all hf h.one (fun v hv => by simp only [List.mem_cons, List.not_mem_nil, or_false, or_self] at hv; rcases hv with rfl | rfl <;> rfl), ?_, ?_, ?_, ?_, ?_, ?_, ?_, ?_⟩
  · exact by rw [G 0, if_neg (by omega)]; exact h.kind
  · exact ⟨h.whe.1, fun i hi => by rw [G (1 + i), if_neg (by omega)]; exact h.whe.2 i hi⟩
  · exact ⟨h.lst.1, fun i hi => by rw [G (10 + i), if_neg (by omega)]; exact h.lst.2 i hi⟩
  · exact ⟨by rw [List.length_set]; exact h.cvs.1, fun i c hc => by
      have hi : i < 4 := by have := (List.getElem?_eq_some_iff.1 hc).1; rw [List.length_set, h.cvs.1] at this; exact this
      by_cases hij : i = j
      · subst hij
        rw [List.getElem?_set_self (by rw [h.cvs.1]; exact hi)] at hc
        obtain rfl := Option.some.inj hc
        have g0 := G (20 + 3 * i)
        have g1 := G (21 + 3 * i)
        have g2 := G (22 + 3 * i)
        rw [if_pos (by omega)] at g0 g1 g2
        rw [show 20 + 3 * i - (20 + 3 * i) = 0 by omega] at g0
        rw [show 21 + 3 * i - (20 + 3 * i) = 1 by omega] at g1
        rw [show 22 + 3 * i - (20 + 3 * i) = 2 by omega] at g2
        exact ⟨g0, ⟨_, g1, .inr ⟨rfl, _, _, rfl⟩⟩, _, g2, .inr ⟨rfl, _, _, rfl⟩⟩
      · rw [List.getElem?_set_ne (Ne.symm hij)] at hc
        obtain ⟨a, ⟨vx, b, s⟩, vy, d, s2⟩ := h.cvs.2 i c hc
        exact ⟨by rw [G (20 + 3 * i), if_neg (by omega)]; exact a, ⟨vx, by rw [G (21 + 3 * i), if_neg (by omega)]; exact b, s⟩, vy, by rw [G (22 + 3 * i), if_neg (by omega)]; exact d, s2⟩⟩
  · exact ⟨h.mix.1, fun i hi => by rw [G (32 + i), if_neg (by omega)]; exact h.mix.2 i hi⟩
  · exact by rw [G 44, if_neg (by omega)]; exact h.piv
  · exact by rw [G 45, if_neg (by omega)]; exact h.amt
  · exact ⟨h.pts.1, fun i hi => by rw [G (46 + i), if_neg (by omega)]; exact h.pts.2 i hi⟩
/-- The curves, those with points among the first j made zero. -/
def zcv (l : List Cv) (j : Nat) : List Cv := (l.take j).map (fun c => if hasP c then ⟨0, [], []⟩ else c) ++ l.drop j
theorem zcv_zero (l : List Cv) : zcv l 0 = l := by simp [zcv]
theorem zcv_yes {l : List Cv} {j : Nat} {c : Cv} (hc : l[j]? = some c) (h : hasP c = true) : zcv l (j + 1) = (zcv l j).set j ⟨0, [], []⟩ := by
  have hl := (List.getElem?_eq_some_iff.1 hc).1
  have hd : l.drop j = c :: l.drop (j + 1) := by
    rw [List.drop_eq_getElem_cons hl, (List.getElem?_eq_some_iff.1 hc).2]
  unfold zcv
  rw [List.take_add_one, hc, hd, List.set_append_right _ _ (by simp; omega)]
  simp [h, Nat.min_eq_left (Nat.le_of_lt hl)]
theorem zcv_no {l : List Cv} {j : Nat} {c : Cv} (hc : l[j]? = some c) (h : hasP c = false) : zcv l (j + 1) = zcv l j := by
  have hl := (List.getElem?_eq_some_iff.1 hc).1
  have hd : l.drop j = c :: l.drop (j + 1) := by
    rw [List.drop_eq_getElem_cons hl, (List.getElem?_eq_some_iff.1 hc).2]
  unfold zcv
  rw [List.take_add_one, hc, hd]
  simp [h]
theorem zer0_0 : zer0 0 = true := by decide
theorem rep_zer0 (n : Nat) : (List.replicate n 0).all zer0 = true := by
  rw [List.all_eq_true]
  intro x hx
  rw [(List.mem_replicate.1 hx).2]
  exact zer0_0
theorem any_cvBad {k : Int} (hk : k ≠ 3) (l : List Cv) : l.any (cvBad k) = l.any cvNz := by
  congr 1
  funext c
  unfold cvBad cvNz
  rw [decide_eq_false hk]; rfl
theorem any_zcv (l : List Cv) : (zcv l l.length).any cvNz = l.any (cvBad 3) := by
  unfold zcv
  rw [List.take_length, List.drop_length, List.append_nil, List.any_map]
  congr 1
  funext c
  show cvNz (if hasP c then ⟨0, [], []⟩ else c) = cvBad 3 c
  unfold cvBad
  cases h : hasP c
  · simp [cvNz, h]
  · rw [if_pos rfl]; simp [cvNz, hasP]
theorem zs1 {g : Gd} (hk : g.kind = 1) : zeroG { g with kind := 0, whe := List.replicate 9 0 } = spareB g := by
  unfold zeroG spareB
  rw [hk, any_cvBad (by decide)]
  simp [rep_zer0, zer0_0, Bool.and_assoc]
theorem zs2 {g : Gd} (hk : g.kind = 2) : zeroG { g with kind := 0, lst := List.replicate 10 0 } = spareB g := by
  unfold zeroG spareB
  rw [hk, any_cvBad (by decide)]
  simp [rep_zer0, zer0_0, Bool.and_assoc]
theorem zs3 {g : Gd} (hk : g.kind = 3) : zeroG { g with kind := 0, cvs := zcv g.cvs g.cvs.length } = spareB g := by
  unfold zeroG spareB
  rw [hk]
  simp [rep_zer0, zer0_0, any_zcv, Bool.and_assoc]
theorem zs4 {g : Gd} (hk : g.kind = 4) : zeroG { g with kind := 0, mix := List.replicate 12 0 } = spareB g := by
  unfold zeroG spareB
  rw [hk, any_cvBad (by decide)]
  simp [rep_zer0, zer0_0, Bool.and_assoc]
theorem zs5 {g : Gd} (hk : g.kind = 5) : zeroG { g with kind := 0, piv := 0, amt := 0 } = spareB g := by
  unfold zeroG spareB
  rw [hk, any_cvBad (by decide)]
  simp [rep_zer0, zer0_0, Bool.and_assoc]
theorem zs6 {g : Gd} (hk : g.kind = 6) : zeroG { g with kind := 0, pts := List.replicate 3 0 } = spareB g := by
  unfold zeroG spareB
  rw [hk, any_cvBad (by decide)]
  simp [rep_zer0, zer0_0, Bool.and_assoc]
end Go.Proofs.YticekgnmiaidjaaGreatDoor
