/- One grade more in a row that the call owns. -/
import Derived.Test.YticekgnmiaidjaaGreatDoorGlS
import Derived.Test.YticekgnmiaidjaaGreatDoorGnN
import Derived.Deep.AppendLies
import Derived.Test.YticekgnmiaidjaaGreatDoorGnJ
import Derived.Test.YticekgnmiaidjaaGreatDoorInv
namespace Go.Proofs.YticekgnmiaidjaaGreatDoor

section
open Go.RowKit Go.Lib

def cellsG (Cs : List (Array Value)) : List Value := Cs.flatMap Array.toList
theorem cellsG_append (A B : List (Array Value)) : cellsG (A ++ B) = cellsG A ++ cellsG B := List.flatMap_append
theorem cellsG_one (C : Array Value) : cellsG [C] = C.toList := by simp [cellsG]
theorem cellsG_len : ∀ {Cs : List (Array Value)}, (∀ C ∈ Cs, C.size = 49) → (cellsG Cs).length = Cs.length * 49
  | [], _ => rfl
  | C :: Cs, h => by
    rw [cellsG, List.flatMap_cons, List.length_append, ← cellsG, cellsG_len (fun D hD => h D (List.mem_cons_of_mem _ hD)), List.length_cons]
    have : C.toList.length = 49 := by simpa using h C (List.mem_cons_self ..)
    omega
theorem cellsG_get : ∀ {Cs : List (Array Value)}, (∀ C ∈ Cs, C.size = 49) → ∀ {k : Nat} {C : Array Value}, Cs[k]? = some C → ∀ (j : Nat), j < 49 → (cellsG Cs)[k * 49 + j]? = C[j]?
  | [], _, k, C, hk, _, _ => by simp at hk
  | D :: Cs, h, 0, C, hk, j, hj => by
    have : D = C := by simpa using hk
    subst this
    have hl : D.toList.length = 49 := by simpa using h D (List.mem_cons_self ..)
    rw [cellsG, List.flatMap_cons, Nat.zero_mul, Nat.zero_add, List.getElem?_append_left (by omega), Array.getElem?_toList]
  | D :: Cs, h, k + 1, C, hk, j, hj => by
    have hl : D.toList.length = 49 := by simpa using h D (List.mem_cons_self ..)
    rw [cellsG, List.flatMap_cons, List.getElem?_append_right (by omega), hl, ← cellsG, show (k + 1) * 49 + j - 49 = k * 49 + j by omega]
    exact cellsG_get (fun E hE => h E (List.mem_cons_of_mem _ hE)) (by simpa using hk) j hj

theorem own_keepx {w w' : World} {B : Nat} {e : TypeId} {s : Nat} {v : Value} {n : Nat} {xs : List Value} (h : w.ownsRow B e s v n xs) (hk : ∀ g, v.ownBlock = some g → g < w.heap.size → w'.heap[g]? = w.heap[g]?) : w'.ownsRow B e s v n xs := by
  refine ⟨h.1, ?_⟩
  rcases h.2 with h0 | ⟨g, cap, cur, e1, e2, e3, e4⟩
  · exact .inl h0
  · exact .inr ⟨g, cap, cur, e1, e2, (hk g (by rw [e1]; rfl) (Array.getElem?_eq_some_iff.1 e3).1).trans e3, e4⟩
/-- The block of a slice that is not empty. -/
def usedB : Value → Option Nat
  | .slice (some a) (_ + 1) _ => some a.block
  | _ => none
theorem usedB_own {v : Value} {b : Nat} (h : usedB v = some b) : v.ownBlock = some b := by
  unfold usedB at h
  split at h
  · exact h
  · cases h
theorem usedB_sl {w : World} {v : Value} {xs : List Nat} (h : Sl w v xs) {b : Nat} (hb : usedB v = some b) : b < w.heap.size := by
  rcases h with ⟨g, o, c, rfl, hne, hrd⟩ | ⟨rfl, a, c, rfl⟩
  · have := usedB_own hb
    have e : g = b := by simpa [Value.ownBlock] using this
    rw [← e]; exact hrd.lt
  · unfold usedB at hb
    split at hb
    · rename_i e
      simp at e
    · cases hb
/-- The slices of the curves lie in old blocks, or in blocks of singles. -/
def CvOk (B : Nat) (w : World) (C : Array Value) : Prop := ∀ (q : Nat) (v : Value), q < 8 → C[cvC q]? = some v → ∀ b, usedB v = some b → b < B ∨ ∃ cur, Bx w b 23 cur
theorem Sl.at {w w' : World} {v : Value} {xs : List Nat} (h : Sl w v xs) (hk : ∀ b, usedB v = some b → b < w.heap.size → w'.heap[b]? = w.heap[b]?) : Sl w' v xs := by
  rcases h with ⟨b, o, c, rfl, hne, hrd⟩ | ⟨rfl, a, c, rfl⟩
  · refine .inl ⟨b, o, c, rfl, hne, ?_⟩
    have hb := hk b (by obtain ⟨n, hn⟩ : ∃ n, xs.length = n + 1 := ⟨xs.length - 1, by have := List.length_pos_iff.2 hne; omega⟩; rw [hn]; rfl) hrd.lt
    have hcl : ∀ k, w'.cell? ⟨b, k, none⟩ = w.cell? ⟨b, k, none⟩ := fun k => by unfold World.cell?; simp only [hb]
    refine ⟨?_, fun k hk => (hcl _).trans (hrd.cell k hk)⟩
    have hc := hrd.cell 0 (List.length_pos_iff.2 hne)
    exact World.block_lt_of_cell? w' _ ((hcl _).trans hc)
  · exact .inr ⟨rfl, a, c, rfl⟩
theorem GdAt.at {w w' : World} {C : Array Value} {g : Gd} (h : GdAt w C g) (hk : ∀ (q : Nat) (v : Value), q < 8 → C[cvC q]? = some v → ∀ b, usedB v = some b → b < w.heap.size → w'.heap[b]? = w.heap[b]?) : GdAt w' C g := by
  refine ⟨h.size, h.one, h.kind, h.whe, h.lst, ⟨h.cvs.1, fun i c hc => ?_⟩, h.mix, h.piv, h.amt, h.pts⟩
  obtain ⟨h1, ⟨vx, ex, sx⟩, vy, ey, sy⟩ := h.cvs.2 i c hc
  have hi : i < 4 := by rw [← h.cvs.1]; exact (List.getElem?_eq_some_iff.1 hc).1
  refine ⟨h1, ⟨vx, ex, sx.at (hk (2 * i) vx (by omega) ?_)⟩, vy, ey, sy.at (hk (2 * i + 1) vy (by omega) ?_)⟩
  · rw [show cvC (2 * i) = 21 + 3 * i by unfold cvC; omega]; exact ex
  · rw [show cvC (2 * i + 1) = 22 + 3 * i by unfold cvC; omega]; exact ey

/-- The slice v is the call's own row of the cells Cs, which are the grades gs. -/
structure OwnGr (B : Nat) (w : World) (v : Value) (Cs : List (Array Value)) (gs : List Gd) : Prop where
  own : w.ownsRow B 46 49 v gs.length (cellsG Cs)
  len : Cs.length = gs.length
  gd : ∀ (k : Nat) (C : Array Value) (g : Gd), Cs[k]? = some C → gs[k]? = some g → GdAt w C g
  cv : ∀ C ∈ Cs, CvOk B w C
theorem OwnGr.nil (B : Nat) (w : World) : OwnGr B w (.slice none 0 0) [] [] :=
  ⟨World.ownsRow_nil _ _ _ _, rfl, fun k C g h => by simp at h, fun C h => by cases h⟩
theorem OwnGr.each {B : Nat} {w : World} {v : Value} {Cs : List (Array Value)} {gs : List Gd} (h : OwnGr B w v Cs gs) {C : Array Value} (hC : C ∈ Cs) : ∃ g, g ∈ gs ∧ GdAt w C g := by
  obtain ⟨k, hk, rfl⟩ := List.mem_iff_getElem.1 hC
  have hk2 : k < gs.length := by rw [← h.len]; exact hk
  exact ⟨gs[k], List.getElem_mem hk2, h.gd k _ _ (List.getElem?_eq_getElem hk) (List.getElem?_eq_getElem hk2)⟩
theorem OwnGr.size {B : Nat} {w : World} {v : Value} {Cs : List (Array Value)} {gs : List Gd} (h : OwnGr B w v Cs gs) : ∀ C ∈ Cs, C.size = 49 := fun C hC => by
  obtain ⟨g, _, hg⟩ := h.each hC
  exact hg.size
theorem OwnGr.form {B : Nat} {w : World} {v : Value} {Cs : List (Array Value)} {gs : List Gd} (h : OwnGr B w v Cs gs) : (v = .slice none 0 0 ∧ gs = []) ∨ ∃ b c cur, v = .slice (some ⟨b, 0, none⟩) gs.length c ∧ B ≤ b ∧ gs.length ≤ c ∧ c ≤ maxLen ∧ Bx w b 46 cur ∧ ∀ (k : Nat) (C : Array Value), Cs[k]? = some C → ∀ j, j < 49 → cur[k * 49 + j]? = C[j]? := by
  rcases h.own.2 with ⟨h1, h2⟩ | ⟨b, c, cur, h1, h2, h3, h4, h5, h6, h7⟩
  · exact .inl ⟨h1, List.length_eq_zero_iff.1 h2⟩
  · refine .inr ⟨b, c, cur, h1, h2, h4, h5, h3, fun k C hk j hj => ?_⟩
    rw [← cellsG_get h.size hk j hj, ← h7]
    have hkl : k < gs.length := by rw [← h.len]; exact (List.getElem?_eq_some_iff.1 hk).1
    rw [List.getElem?_take_of_lt (by omega), Array.getElem?_toList]
theorem OwnGr.sl {B : Nat} {w : World} {v : Value} {Cs : List (Array Value)} {gs : List Gd} (h : OwnGr B w v Cs gs) : SlG w v gs := by
  rcases h.form with ⟨rfl, rfl⟩ | ⟨b, c, cur, rfl, _, h3, h4, hx, hc⟩
  · exact ⟨none, 0, rfl, Nat.zero_le _, Nat.zero_le _, .inl rfl⟩
  · refine ⟨some ⟨b, 0, none⟩, c, rfl, h3, h4, .inr ⟨b, 0, rfl, hx.lt, fun k g hg => ?_⟩⟩
    have hkl : k < Cs.length := by rw [h.len]; exact (List.getElem?_eq_some_iff.1 hg).1
    refine ⟨Cs[k], h.gd k _ g (List.getElem?_eq_getElem hkl) hg, fun j u hj => ?_⟩
    have hj49 : j < 49 := by rw [← h.size _ (List.getElem_mem hkl)]; exact (Array.getElem?_eq_some_iff.1 hj).1
    rw [hx.all.1, Nat.zero_add, hc k _ (List.getElem?_eq_getElem hkl) j hj49, hj]
/-- The row stays where its own block and the curves' blocks stay. -/
theorem OwnGr.at {B : Nat} {w w' : World} {v : Value} {Cs : List (Array Value)} {gs : List Gd} (h : OwnGr B w v Cs gs) (hk : ∀ b, b < w.heap.size → w'.heap[b]? = w.heap[b]?) : OwnGr B w' v Cs gs := by
  refine ⟨own_keepx h.own fun g hg hl => hk g hl, h.len, fun k C g hC hg => (h.gd k C g hC hg).at fun q v _ _ b _ hl => hk b hl, fun C hC q v hq hv b hb => ?_⟩
  rcases h.cv C hC q v hq hv b hb with h1 | ⟨cur, h1⟩
  · exact .inl h1
  · exact .inr ⟨cur, (hk b h1.lt).trans h1⟩
theorem OwnGr.keep {B : Nat} {w w' : World} {v : Value} {Cs : List (Array Value)} {gs : List Gd} (h : OwnGr B w v Cs gs) (hb : Below w.heap.size w w') : OwnGr B w' v Cs gs := h.at hb.block
/-- One grade more. -/
theorem OwnGr.push {B : Nat} {w w' : World} {v v' : Value} {Cs : List (Array Value)} {gs : List Gd} (h : OwnGr B w v Cs gs) {C : Array Value} {g : Gd} (hG : GdAt w C g) (hC : CvOk B w C)
    (hown : w'.ownsRow B 46 49 v' (gs.length + 1) (cellsG Cs ++ C.toList)) (hgrow : w.grownBy w' v.ownBlock) : OwnGr B w' v' (Cs ++ [C]) (gs ++ [g]) := by
  have hne : ∀ D, CvOk B w D → ∀ (q : Nat) (u : Value), q < 8 → D[cvC q]? = some u → ∀ b, usedB u = some b → b < w.heap.size → w'.heap[b]? = w.heap[b]? := fun D hD q u hq hu b hb hl => by
    refine hgrow.block b hl fun e => ?_
    rcases h.form with ⟨rfl, _⟩ | ⟨p, c, cur, rfl, hp, _, _, hx, _⟩
    · cases e
    · have e : b = p := by simpa [Value.ownBlock] using e
      subst e
      rcases hD q u hq hu _ hb with h1 | ⟨cur2, h1⟩
      · omega
      · exact hx.ne h1 (by decide) rfl
  have hcv : ∀ D, CvOk B w D → CvOk B w' D := fun D hD q u hq hu b hb => by
    rcases hD q u hq hu b hb with h1 | ⟨cur, h1⟩
    · exact .inl h1
    · exact .inr ⟨cur, (hne D hD q u hq hu b hb h1.lt).trans h1⟩
  refine ⟨?_, by rw [List.length_append, List.length_append, h.len]; rfl, fun k D x hD hx => ?_, fun D hD => ?_⟩
  · rw [cellsG_append, cellsG_one, List.length_append]; exact hown
  · by_cases hk : k < gs.length
    · rw [List.getElem?_append_left (by rw [h.len]; exact hk)] at hD
      rw [List.getElem?_append_left hk] at hx
      exact (h.gd k D x hD hx).at (hne D (h.cv D (List.mem_of_getElem? hD)))
    · have hk2 : k = gs.length := by
        have := (List.getElem?_eq_some_iff.1 hx).1
        rw [List.length_append, List.length_singleton] at this
        omega
      subst hk2
      rw [List.getElem?_append_right (by rw [h.len]; exact Nat.le_refl _), h.len, Nat.sub_self] at hD
      rw [List.getElem?_append_right (Nat.le_refl _), Nat.sub_self] at hx
      have e1 : C = D := by simpa using hD
      have e2 : g = x := by simpa using hx
      subst e1 e2
      exact hG.at (hne C hC)
  · rcases List.mem_append.1 hD with h1 | h1
    · exact hcv D (h.cv D h1)
    · rw [List.mem_singleton.1 h1]; exact hcv C hC
/-- A grade whose slices lie in the memory w: all of them are old to what comes after. -/
theorem GdAt.cvok {w : World} {C : Array Value} {g : Gd} (h : GdAt w C g) {B : Nat} (hB : w.heap.size ≤ B) (w' : World) : CvOk B w' C := fun q v hq hv b hb => by
  refine .inl (Nat.lt_of_lt_of_le ?_ hB)
  have hi : q / 2 < g.cvs.length := by rw [h.cvs.1]; omega
  obtain ⟨_, ⟨vx, ex, sx⟩, vy, ey, sy⟩ := h.cvs.2 (q / 2) _ (List.getElem?_eq_getElem hi)
  rcases (by omega : q % 2 = 0 ∨ q % 2 = 1) with hm | hm
  · rw [show cvC q = 21 + 3 * (q / 2) by unfold cvC; omega, ex] at hv
    rw [← Option.some.inj hv] at hb
    exact usedB_sl sx hb
  · rw [show cvC q = 22 + 3 * (q / 2) by unfold cvC; omega, ey] at hv
    rw [← Option.some.inj hv] at hb
    exact usedB_sl sy hb
end

section
open Go.RowKit Go.Lib

theorem OwnGr.alloc {B : Nat} {w : World} {v : Value} {Cs : List (Array Value)} {gs : List Gd} (h : OwnGr B w v Cs gs) (ob : Obj) : OwnGr B (w.alloc ob) v Cs gs := h.keep (bnew (Below.refl _ _))
theorem CvOk.alloc {B : Nat} {w : World} {C : Array Value} (h : CvOk B w C) (ob : Obj) : CvOk B (w.alloc ob) C := fun q v hq hv b hb => by
  rcases h q v hq hv b hb with h1 | ⟨cur, h1⟩
  · exact .inl h1
  · exact .inr ⟨cur, h1.keep (bnew (Below.refl _ _))⟩
theorem OwnGr.base {B : Nat} {w : World} {v : Value} {Cs : List (Array Value)} {gs : List Gd} (h : OwnGr B w v Cs gs) : ∀ q, v.ownBlock = some q → B ≤ q := fun q hq => by
  rcases h.form with ⟨rfl, _⟩ | ⟨b, c, cur, rfl, hb, _⟩
  · cases hq
  · have : b = q := by simpa [Value.ownBlock] using hq
    omega
theorem infoGr : (Tryz.prog.info? 46).map (fun i => (i.zero, i.size, i.bytes)) = some (some (.agg #[.int .i64 0, .float .f32 0, .float .f32 0, .float .f32 0, .float .f32 0, .float .f32 0, .float .f32 0, .float .f32 0, .float .f32 0, .float .f32 0, .float .f32 0, .float .f32 0, .float .f32 0, .float .f32 0, .float .f32 0, .float .f32 0, .float .f32 0, .float .f32 0, .float .f32 0, .float .f32 0, .int .i64 0, .slice none 0 0, .slice none 0 0, .int .i64 0, .slice none 0 0, .slice none 0 0, .int .i64 0, .slice none 0 0, .slice none 0 0, .int .i64 0, .slice none 0 0, .slice none 0 0, .float .f32 0, .float .f32 0, .float .f32 0, .float .f32 0, .float .f32 0, .float .f32 0, .float .f32 0, .float .f32 0, .float .f32 0, .float .f32 0, .float .f32 0, .float .f32 0, .float .f32 0, .float .f32 0, .int .i64 0, .int .i64 0, .int .i64 0]), 49, 392) := by kernel_rfl
end
end Go.Proofs.YticekgnmiaidjaaGreatDoor
