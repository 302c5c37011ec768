/- Rows of a look that the call owns; conform.table: look. (printed by gen_lkk.py) -/
import Derived.Test.YticekgnmiaidjaaGreatDoorLkJ
import Derived.Test.YticekgnmiaidjaaGreatDoorLkF
import Derived.Test.YticekgnmiaidjaaGreatDoorInv
import Derived.Maps.AppendAt
namespace Go.Proofs.YticekgnmiaidjaaGreatDoor
open Go.RowKit Go.Lib

theorem infoLR : (Tryz.prog.info? 89).map (fun i => (i.zero, i.size, i.bytes)) = some (some (.agg #[.string ⟨#[]⟩, .slice none 0 0]), 2, 40) := by kernel_rfl
abbrev RZ := ByteArray × Value × List Gd
def rzC (Z : List RZ) : List Value := Z.flatMap fun z => [.string z.1, z.2.1]
def rzR (Z : List RZ) : List Rw := Z.map fun z => (z.1, z.2.2)
theorem rzC_append (Z Y : List RZ) : rzC (Z ++ Y) = rzC Z ++ rzC Y := List.flatMap_append
theorem rzR_append (Z Y : List RZ) : rzR (Z ++ Y) = rzR Z ++ rzR Y := List.map_append
theorem rzR_len (Z : List RZ) : (rzR Z).length = Z.length := by simp [rzR]
theorem rzC_get : ∀ {Z : List RZ} {k : Nat} {z : RZ}, Z[k]? = some z → (rzC Z)[k * 2]? = some (.string z.1) ∧ (rzC Z)[k * 2 + 1]? = some z.2.1
  | [], k, z, h => by simp at h
  | y :: Z, 0, z, h => by
    have : y = z := by simpa using h
    subst this
    exact ⟨rfl, rfl⟩
  | y :: Z, k + 1, z, h => by
    have ih := rzC_get (Z := Z) (k := k) (z := z) (by simpa using h)
    rw [show (k + 1) * 2 = k * 2 + 1 + 1 by omega]
    exact ih
/-- The slice v is the call's own row of the rows Z; their grades lie in blocks that no own block and none of F meets. -/
structure OwnRw (B : Nat) (F : Nat → Prop) (w : World) (v : Value) (Z : List RZ) : Prop where
  own : w.ownsRow B 89 2 v Z.length (rzC Z)
  gr : ∀ z ∈ Z, ∃ lo hi, SlGi lo hi w z.2.1 z.2.2 ∧ hi ≤ w.heap.size ∧ ∀ b, (v.ownBlock = some b ∨ F b) → b < lo ∨ hi ≤ b
theorem OwnRw.nil (B : Nat) (F : Nat → Prop) (w : World) : OwnRw B F w (.slice none 0 0) [] := ⟨World.ownsRow_nil _ _ _ _, fun z hz => by cases hz⟩
theorem OwnRw.form {B : Nat} {F : Nat → Prop} {w : World} {v : Value} {Z : List RZ} (h : OwnRw B F w v Z) : ∃ a c, v = .slice a Z.length c := by
  rcases h.own.2 with ⟨e, h0⟩ | ⟨g, c, cur, e, _⟩
  · exact ⟨none, 0, by rw [e, h0]⟩
  · exact ⟨_, c, e⟩
theorem OwnRw.base {B : Nat} {F : Nat → Prop} {w : World} {v : Value} {Z : List RZ} (h : OwnRw B F w v Z) : ∀ g, v.ownBlock = some g → B ≤ g ∧ g < w.heap.size := fun g hg => h.own.lt g hg
theorem OwnRw.keep {B : Nat} {F : Nat → Prop} {w w' : World} {v : Value} {Z : List RZ} (h : OwnRw B F w v Z) (hb : Below w.heap.size w w') : OwnRw B F w' v Z :=
  ⟨own_keepg h.own fun g _ hg => hb.block g hg, fun z hz => by
    obtain ⟨lo, hi, h1, h2, h3⟩ := h.gr z hz
    exact ⟨lo, hi, h1.at fun b _ hb2 => hb.block b (by omega), Nat.le_trans h2 hb.size, h3⟩⟩
theorem OwnRw.put {B : Nat} {F : Nat → Prop} {w : World} {v u : Value} {Z : List RZ} (h : OwnRw B F w v Z) {p i : Nat} (hp : p < B) (hF : F p) : OwnRw B F (w.setCell ⟨p, i, none⟩ u) v Z :=
  ⟨own_keepg h.own fun g hg _ => by
    have := (h.base g hg).1
    exact Below.heap_setCell _ _ _ _ (by dsimp only; omega), fun z hz => by
    obtain ⟨lo, hi, h1, h2, h3⟩ := h.gr z hz
    refine ⟨lo, hi, h1.at fun b hb1 hb2 => ?_, ?_, h3⟩
    · have := h3 p (.inr hF)
      exact Below.heap_setCell _ _ _ _ (by dsimp only; omega)
    · rw [((Only.refl p w).set i u).size]; exact h2⟩
theorem OwnRw.push {B : Nat} {F : Nat → Prop} {w w' : World} {v v' gv : Value} {Z : List RZ} {s : ByteArray} {gs : List Gd} {lo hi : Nat} (h : OwnRw B F w v Z) (hg : SlGi lo hi w gv gs) (hh : hi ≤ w.heap.size) (ho : ∀ b, (v.ownBlock = some b ∨ F b) → b < lo ∨ hi ≤ b)
    (hown : w'.ownsRow B 89 2 v' (Z.length + 1) (rzC Z ++ [.string s, gv])) (hgrow : w.grownBy w' v.ownBlock) (hat : v'.ownBlock = v.ownBlock ∨ v'.ownBlock = some w.heap.size) : OwnRw B F w' v' (Z ++ [(s, gv, gs)]) := by
  have key : ∀ (lo hi : Nat) (gv : Value) (gs : List Gd), SlGi lo hi w gv gs → hi ≤ w.heap.size → (∀ b, (v.ownBlock = some b ∨ F b) → b < lo ∨ hi ≤ b) → ∃ lo hi, SlGi lo hi w' gv gs ∧ hi ≤ w'.heap.size ∧ ∀ b, (v'.ownBlock = some b ∨ F b) → b < lo ∨ hi ≤ b := fun lo hi gv gs h1 h2 h3 => by
    refine ⟨lo, hi, h1.at fun b hb1 hb2 => hgrow.block b (by omega) (fun e => ?_), Nat.le_trans h2 hgrow.size, fun b hb => ?_⟩
    · have := h3 b (.inl e.symm); omega
    · rcases hb with hb | hb
      · rcases hat with e | e
        · exact h3 b (.inl (by rw [← e]; exact hb))
        · rw [hb] at e
          have := Option.some.inj e
          exact .inr (by omega)
      · exact h3 b (.inr hb)
  refine ⟨?_, fun z hz => ?_⟩
  · rw [rzC_append, List.length_append]; exact hown
  · rcases List.mem_append.1 hz with hz | hz
    · obtain ⟨lo, hi, h1, h2, h3⟩ := h.gr z hz
      exact key lo hi _ _ h1 h2 h3
    · rw [List.mem_singleton.1 hz]
      exact key lo hi gv gs hg hh ho
theorem OwnRw.sl {B : Nat} {F : Nat → Prop} {w : World} {v : Value} {Z : List RZ} (h : OwnRw B F w v Z) : SlL w v (rzR Z) := by
  rcases h.own.2 with ⟨e, h0⟩ | ⟨g, c, cur, e, h1, h2, h3, h4, h5, h6⟩
  · have : Z = [] := List.length_eq_zero_iff.1 h0
    subst this
    exact ⟨none, 0, e, Nat.zero_le _, Nat.zero_le _, .inl rfl⟩
  · refine ⟨some ⟨g, 0, none⟩, c, by rw [rzR_len]; exact e, by rw [rzR_len]; exact h3, h4, .inr ⟨g, 0, rfl, (Array.getElem?_eq_some_iff.1 h2).1, fun k r hr => ?_⟩⟩
    have hc : ∀ j u, (rzC Z)[j]? = some u → w.cell? ⟨g, j, none⟩ = some u := fun j u hj => by
      rw [cell_of_row w g j cur _ (0, 0) h2]
      rw [← h6, List.getElem?_take] at hj
      split at hj
      · rw [Array.getElem?_toList] at hj; exact hj
      · cases hj
    unfold rzR at hr
    rw [List.getElem?_map] at hr
    cases hz : Z[k]? with
    | none => rw [hz] at hr; cases hr
    | some z =>
      rw [hz] at hr
      have hr : (z.1, z.2.2) = r := by simpa using hr
      subst hr
      obtain ⟨q1, q2⟩ := rzC_get hz
      obtain ⟨lo, hi, s1, _, _⟩ := h.gr z (List.mem_of_getElem? hz)
      rw [Nat.zero_add]
      exact ⟨hc _ _ q1, z.2.1, hc _ _ q2, s1.sl⟩
theorem run_app_row {B : Nat} {w : World} {Z : List RZ} {s : ByteArray} {gv v : Value} {o : Oper} {a : Act} (x y : Operand)
    (ho : o.op = .call { callee := .builtin .append, args := #[x, y], argTypes := #[55, 55] }) (hs : a.eval x = v) (g c : Nat) (hy : a.eval y = .slice (some ⟨g, 0, none⟩) 1 c) (hm : w.ownsRow B 89 2 v Z.length (rzC Z)) (hx : Bx w g 89 #[.string s, gv]) (hg : gv.oneCell' = true)
    (hl : Z.length ≤ 1000000) (hB : B ≤ w.heap.size) :
    ∃ v' w', (execOp a.eval o).run Tryz.prog w = .ok (.value v') w' ∧ w'.ownsRow B 89 2 v' (Z.length + 1) (rzC Z ++ [.string s, gv]) ∧ w.grownBy w' v.ownBlock ∧ (v'.ownBlock = v.ownBlock ∨ v'.ownBlock = some w.heap.size) := by
  obtain ⟨i0, hi, hz0, hz1, hz2⟩ := info_parts infoLR
  have hml : maxLen = 9223372036854775807 := rfl
  obtain ⟨v', w', hr, h2, h3, _, h5⟩ := run_append_own_at (P := Tryz.prog) w B 55 o.type 89 i0 (.agg #[.string ⟨#[]⟩, .slice none 0 0]) 2 40 Tryz.underlying55 hi hz0 hz1 hz2 rfl (by decide) v Z.length (rzC Z) hm ⟨g, 0, none⟩ 1 c [Value.string s, gv] rfl
    (fun j u hj => by
      match j, hj with
      | 0, hj => rw [add_none, hx.all.1]; exact hj
      | 1, hj => rw [add_none, hx.all.1]; exact hj) (fun u hu => by
        rcases List.mem_cons.1 hu with rfl | hu
        · rfl
        · rw [List.mem_singleton.1 hu]; exact hg) (by omega) (by omega) hB
  refine ⟨v', w', ?_, h2, h3, h5⟩
  unfold execOp
  simp only [ho, resolve, invoke, builtin, Sem.run_bind, Sem.run_pure, Result.andThen_ok, List.map_toArray, List.map_cons, List.map_nil, hs, hy, hr]
theorem inv_app_row {Q : Exit → Act → World → Prop} {A : Nat → Value → Prop} {E : (Nat → Bool) → (Nat → Value) → World → Prop} {d : Nat → Bool} {vs : Nat → Value} {i : Nat} {B : Nat} {w : World} {Z : List RZ} {s : ByteArray} {gv v : Value} {o : Oper} {a : Act} (x y : Operand)
    (ho : o.op = .call { callee := .builtin .append, args := #[x, y], argTypes := #[55, 55] }) (hs : a.eval x = v) (g c : Nat) (hy : a.eval y = .slice (some ⟨g, 0, none⟩) 1 c) (hm : w.ownsRow B 89 2 v Z.length (rzC Z)) (hx : Bx w g 89 #[.string s, gv]) (hg : gv.oneCell' = true)
    (hl : Z.length ≤ 1000000) (hB : B ≤ w.heap.size) (hn : o.dst ≠ none)
    (hK : ∀ v' w', w'.ownsRow B 89 2 v' (Z.length + 1) (rzC Z ++ [.string s, gv]) → w.grownBy w' v.ownBlock → (v'.ownBlock = v.ownBlock ∨ v'.ownBlock = some w.heap.size) → A i v' ∧ E (upd d i true) (upd vs i v') w') : o.wp Tryz.prog a w (InvPost A E d vs i o a) Q := by
  obtain ⟨v', w', hr, h1, h2, h3⟩ := run_app_row x y ho hs g c hy hm hx hg hl hB
  exact inv_val hr (fun h => absurd h hn) (hK v' w' h1 h2 h3).1 (hK v' w' h1 h2 h3).2
theorem Kx.grown {p : Nat} {a b c : World} {row : Option Nat} (h : Kx p a b) (g : b.grownBy c row) (hr : ∀ q, row = some q → a.heap.size ≤ q) : Kx p a c :=
  ⟨g.os.trans h.os, g.tape.trans h.tape, g.output.trans h.output, Nat.le_trans h.size g.size, fun k hk hp => (g.block k (Nat.lt_of_lt_of_le hk h.size) (fun e => by have := hr k e.symm; omega)).trans (h.block k hk hp)⟩
/-- One row more, under way: the box p3 has the rows; the grades' clone, the new row, the append, the store. -/
structure LE (W2 : World) (p3 : Nat) (F : Nat → Prop) (Z : List RZ) (s : ByteArray) (gs : List Gd) (v3 : Value) (d1 d6 d7 d8 d9 d11 : Bool) (c6 c7 c8 c9 : Value) (w : World) : Prop where
  kx : Kx p3 W2 w
  bx : Bx w p3 57 #[if d11 then c9 else v3]
  rw0 : d9 = false → OwnRw W2.heap.size F w v3 Z
  cl : d6 = true → ∃ a n c, c6 = .slice a n c
  cg : d6 = true → d9 = false → ∃ lo hi, SlGi lo hi w c6 gs ∧ hi ≤ w.heap.size ∧ ∀ b, (v3.ownBlock = some b ∨ F b) → b < lo ∨ hi ≤ b
  k7 : d7 = true → c7 = .agg #[.string s, c6]
  sb : d8 = true → d9 = false → ∃ g, c8 = .slice (some ⟨g, 0, none⟩) 1 1 ∧ Bx w g 89 #[.string s, c6]
  rw1 : d9 = true → OwnRw W2.heap.size F w c9 (Z ++ [(s, c6, gs)])
  o91 : d9 = true → d1 = true
  o76 : d7 = true → d6 = true
  o87 : d8 = true → d7 = true
  o98 : d9 = true → d8 = true
  oB9 : d11 = true → d9 = true
section
variable {W2 w w' : World} {p3 : Nat} {F : Nat → Prop} {Z : List RZ} {s : ByteArray} {gs : List Gd} {v3 : Value} {d1 d6 d7 d8 d9 d11 : Bool} {c6 c7 c8 c9 : Value}
theorem ff_of {a b : Bool} (h : a = true → b = true) (hb : b = false) : a = false := by
  cases a
  · rfl
  · rw [h rfl] at hb; cases hb
theorem LE.keep (h : LE W2 p3 F Z s gs v3 d1 d6 d7 d8 d9 d11 c6 c7 c8 c9 w) (hb : Below w.heap.size w w') : LE W2 p3 F Z s gs v3 d1 d6 d7 d8 d9 d11 c6 c7 c8 c9 w' :=
  ⟨h.kx.call hb, h.bx.keep hb, fun e => (h.rw0 e).keep hb, h.cl, fun e1 e2 => by
    obtain ⟨lo, hi, h1, h2, h3⟩ := h.cg e1 e2
    exact ⟨lo, hi, h1.at fun b _ hb2 => hb.block b (by omega), Nat.le_trans h2 hb.size, h3⟩, h.k7, fun e1 e2 => by
    obtain ⟨g, h1, h2⟩ := h.sb e1 e2
    exact ⟨g, h1, h2.keep hb⟩, fun e => (h.rw1 e).keep hb, h.o91, h.o76, h.o87, h.o98, h.oB9⟩
theorem LE.ld (h : LE W2 p3 F Z s gs v3 d1 d6 d7 d8 d9 d11 c6 c7 c8 c9 w) (h1 : d1 = false) : w.cell? ⟨p3, 0, none⟩ = some v3 := by
  have h9 := ff_of h.o91 h1
  have h11 := ff_of h.oB9 h9
  have hq := h.bx.all.1 0
  rw [h11] at hq
  exact hq
theorem LE.set1 (h : LE W2 p3 F Z s gs v3 d1 d6 d7 d8 d9 d11 c6 c7 c8 c9 w) : LE W2 p3 F Z s gs v3 true d6 d7 d8 d9 d11 c6 c7 c8 c9 w :=
  ⟨h.kx, h.bx, h.rw0, h.cl, h.cg, h.k7, h.sb, h.rw1, fun _ => rfl, h.o76, h.o87, h.o98, h.oB9⟩
theorem LE.set6 (h : LE W2 p3 F Z s gs v3 d1 d6 d7 d8 d9 d11 c6 c7 c8 c9 w) (h6 : d6 = false) (hF : ∀ b, F b → b < w.heap.size) {u : Value} (hg : SlGi w.heap.size w'.heap.size w' u gs) (hb : Below w.heap.size w w') : LE W2 p3 F Z s gs v3 d1 true d7 d8 d9 d11 u c7 c8 c9 w' := by
  have h7 := ff_of h.o76 h6
  have h8 := ff_of h.o87 h7
  have h9 := ff_of h.o98 h8
  have k := h.keep hb
  subst h7 h8 h9
  refine ⟨k.kx, k.bx, k.rw0, fun _ => ?_, fun _ _ => ⟨w.heap.size, w'.heap.size, hg, Nat.le_refl _, fun b hb => ?_⟩, fun e => (by cases e), fun e => (by cases e), fun e => (by cases e), k.o91, fun _ => rfl, k.o87, k.o98, k.oB9⟩
  · obtain ⟨a, c, e, _⟩ := hg.sl
    exact ⟨_, _, _, e⟩
  · rcases hb with hb | hb
    · exact .inl ((h.rw0 rfl).base b hb).2
    · exact .inl (hF b hb)
theorem LE.set7 (h : LE W2 p3 F Z s gs v3 d1 d6 d7 d8 d9 d11 c6 c7 c8 c9 w) (h6 : d6 = true) {u : Value} (hu : u = .agg #[.string s, c6]) : LE W2 p3 F Z s gs v3 d1 d6 true d8 d9 d11 c6 u c8 c9 w :=
  ⟨h.kx, h.bx, h.rw0, h.cl, h.cg, fun _ => hu, h.sb, h.rw1, h.o91, fun _ => h6, fun _ => rfl, h.o98, h.oB9⟩
theorem LE.set8 (h : LE W2 p3 F Z s gs v3 d1 d6 d7 d8 d9 d11 c6 c7 c8 c9 w) (h7 : d7 = true) (h8 : d8 = false) {u : Value} (hu : u = c6) : LE W2 p3 F Z s gs v3 d1 d6 d7 true d9 d11 c6 c7 (.slice (some ⟨w.heap.size, 0, none⟩) 1 1) c9 (w.alloc (.cells #[.string s, u] 89)) := by
  have h9 := ff_of h.o98 h8
  have k := h.keep (bnew (ob := .cells #[.string s, u] 89) (Below.refl _ _))
  subst hu h9
  exact ⟨k.kx, k.bx, k.rw0, k.cl, k.cg, k.k7, fun _ _ => ⟨_, rfl, Bx.new _ _ _⟩, fun e => (by cases e), k.o91, k.o76, fun _ => h7, fun e => (by cases e), k.oB9⟩
theorem LE.set9 (h : LE W2 p3 F Z s gs v3 d1 d6 d7 d8 d9 d11 c6 c7 c8 c9 w) (h1 : d1 = true) (h6 : d6 = true) (h8 : d8 = true) (h9 : d9 = false) (hp : p3 < W2.heap.size) {u : Value} (hown : w'.ownsRow W2.heap.size 89 2 u (Z.length + 1) (rzC Z ++ [.string s, c6])) (hgrow : w.grownBy w' v3.ownBlock) (hat : u.ownBlock = v3.ownBlock ∨ u.ownBlock = some w.heap.size) :
    LE W2 p3 F Z s gs v3 d1 d6 d7 d8 true d11 c6 c7 c8 u w' := by
  have h11 := ff_of h.oB9 h9
  subst h11
  obtain ⟨lo, hi, g1, g2, g3⟩ := h.cg h6 h9
  have hb := fun q (hq : v3.ownBlock = some q) => (h.rw0 h9).base q hq
  refine ⟨h.kx.grown hgrow fun q hq => (hb q hq).1, ?_, fun e => (by cases e), h.cl, fun _ e => (by cases e), h.k7, fun _ e => (by cases e), fun _ => (h.rw0 h9).push g1 g2 g3 hown hgrow hat, fun _ => h1, h.o76, h.o87, fun _ => h8, fun e => (by cases e)⟩
  exact (hgrow.block p3 h.bx.lt (fun e => by have := (hb p3 e.symm).1; omega)).trans h.bx
theorem LE.set11 (h : LE W2 p3 F Z s gs v3 d1 d6 d7 d8 d9 d11 c6 c7 c8 c9 w) (h9 : d9 = true) (hp : p3 < W2.heap.size) (hF : F p3) : LE W2 p3 F Z s gs v3 d1 d6 d7 d8 d9 true c6 c7 c8 c9 (w.setCell ⟨p3, 0, none⟩ c9) := by
  subst h9
  refine ⟨h.kx.put, ?_, fun e => (by cases e), h.cl, fun _ e => (by cases e), h.k7, fun _ e => (by cases e), fun _ => (h.rw1 rfl).put hp hF, h.o91, h.o76, h.o87, h.o98, fun _ => rfl⟩
  have := h.bx.set 0 c9
  simpa using this
end
set_option maxRecDepth 100000 in
set_option maxHeartbeats 16000000 in
theorem conform_look (W0 W : World) (b : Nat) (f : ByteArray → Option (List Gd)) (N : List ByteArray) (hB : Below W0.heap.size W0 W) (h : Tab W0 W b f N) (hr : ∀ s gs, f s = some gs → RightL gs) (hN : N.length ≤ 1000) (hz : ∀ s ∈ N, s.size ≤ maxLen) :
    Calls Tryz.prog 44 #[.map (some b)] W fun e w' => ∃ v, e = .returned (.agg #[v]) ∧ (SlL w' v (rowsOf f N) ∧ ∀ q i x, q < W.heap.size → SlL (w'.setCell ⟨q, i, none⟩ x) v (rowsOf f N)) ∧ Below W.heap.size W w' := by
  have hmem := h.mem
  obtain ⟨hsrt, A, hA, hperm, hrel⟩ := h
  have hAl : A.length = N.length := by have := hperm.length_eq; rw [List.length_map] at this; exact this
  have hall : allS ([(b, A)].flatMap nmA) = N := by
    rw [← allS_self hsrt]
    refine allS_mem fun s => ?_
    rw [List.flatMap_singleton]
    exact hperm.mem_iff
  have HT := Lib.hid (And.intro hA (And.intro hrel (And.intro hr (And.intro hz (And.intro hall (And.intro hAl hmem))))))
  have HB0 := Lib.hid hB
  have hblt := hA.lt
  clear hsrt hA hperm hrel hr hz hall hAl hmem hB
  go_enter Tryz.func44, Tryz.ntmps44
  go_upto_region 2 with fail
  refine name_world ?_
  intro W1 hW1
  have hs1 : (W.alloc (.cells #[.slice none 0 0] 57)).heap.size = W.heap.size + 1 := Array.size_push _
  have X2 : Hid (Bx W1 W.heap.size 57 #[.slice none 0 0]) := Lib.hid (by rw [hW1]; exact (Bx.new _ _ _).keep (bnew (Below.refl _ _)))
  have X3 : Hid (Bx W1 (W.heap.size + 1) 57 #[.slice none 0 0]) := Lib.hid (by rw [hW1, ← hs1]; exact Bx.new _ _ _)
  have HW : Hid (Below W.heap.size W W1) := Lib.hid (by rw [hW1]; exact bnew (bnew (ob := .cells #[.slice none 0 0] 57) (Below.refl _ W)))
  try rw [hs1]
  obtain ⟨p2, hp2⟩ : ∃ p, W.heap.size = p := ⟨_, rfl⟩
  obtain ⟨p3, hp3⟩ : ∃ p, p2 + 1 = p := ⟨_, rfl⟩
  have HPP := Lib.hid (And.intro hp2 hp3)
  rw [hp2] at X2 X3
  rw [hp3] at X3
  try rw [hp2]
  try rw [hp3]
  have hp3lt := X3.out.lt
  clear hW1 hp2 hp3 hs1
  go_wp2_with fail
  refine (conform_shots (b, A) [] (.slice none 0 0) _ (fun m hm => by rw [List.mem_singleton.1 hm]; exact HT.out.1.keep HW.out) (.inl ⟨rfl, rfl⟩) (by simp) (fun m hm => by rw [List.mem_singleton.1 hm]; show A.length ≤ 1000; rw [HT.out.2.2.2.2.2.1]; exact hN)).mono ?_
  rintro e W2 ⟨v7, rfl, ho7, hb7⟩
  rw [HT.out.2.2.2.2.1] at ho7
  obtain ⟨n, hn⟩ : ∃ n, N.length = n := ⟨_, rfl⟩
  have HNl := Lib.hid hn
  obtain ⟨a7, c7, hv7, hc7⟩ : ∃ a c, v7 = .slice a n c ∧ (0 < n → ∃ g, a = some ⟨g, 0, none⟩ ∧ W1.heap.size ≤ g ∧ g < W2.heap.size ∧ ∀ k, k < n → W2.cell? ⟨g, k, none⟩ = some (.string (N.getD k default))) := by
    rcases OwnS.form ho7 with ⟨h0, h1⟩ | ⟨g, c, h1, h2, h3, _, h4⟩
    · refine ⟨none, 0, by rw [h1, ← hn, h0]; rfl, fun h => ?_⟩
      rw [← hn, h0] at h; simp at h
    · rw [hn] at h1 h4
      exact ⟨_, c, h1, fun _ => ⟨g, rfl, h2, h3, h4⟩⟩
  subst hv7
  have HC7 := Lib.hid hc7
  have X22 := Lib.hid (X2.out.keep hb7)
  have X32 := Lib.hid (X3.out.keep hb7)
  have hW12 := hb7.size
  have HB2 : Hid (Below W.heap.size W W2) := Lib.hid (bcall HW.out hb7)
  have HB02 : Hid (Below W0.heap.size W0 W2) := Lib.hid (HB0.out.trans (HB2.out.mono HB0.out.size))
  rw [hn] at hN
  clear ho7 hb7 hc7 hn
  obtain ⟨F, hF⟩ : ∃ F : Nat → Prop, F = fun q => q < W2.heap.size := ⟨_, rfl⟩
  have HP3 : Hid (p3 < W2.heap.size ∧ F p3) := Lib.hid ⟨by omega, by rw [hF]; show p3 < W2.heap.size; omega⟩
  have HP2 : Hid (p2 < W2.heap.size ∧ F p2) := Lib.hid ⟨X22.out.lt, by rw [hF]; exact X22.out.lt⟩
  have HF : Hid (∀ q, F q ↔ q < W2.heap.size) := Lib.hid (fun q => by rw [hF])
  clear hF
  go_wp2_with fail
  go_loopw [9] (fun i wr => ∃ (k : Nat) (v : Value) (Z : List RZ), k ≤ n ∧ i = .int .i64 (k : Int) ∧ Hid (Kx p3 W2 wr ∧ Bx wr p3 57 #[v] ∧ OwnRw W2.heap.size F wr v Z ∧ rzR Z = rowsOf f (N.take k))) (fun i _ => n - (RowKit.intOf i).toNat)
  case atStart => exact ⟨0, .slice none 0 0, [], Nat.zero_le _, rfl, Lib.hid ⟨Kx.refl _ _, X32.out, OwnRw.nil _ _ _, rfl⟩⟩
  case round =>
    obtain ⟨k, v, Z, hk, rfl, HI⟩ := hrel
    by_cases hlt : k < n
    · obtain ⟨a3, c3, hv⟩ := HI.out.2.2.1.form
      obtain ⟨n3, hn3⟩ : ∃ m, Z.length = m := ⟨_, rfl⟩
      rw [hn3] at hv
      subst hv
      obtain ⟨g7, hg7, hlo7, hlt7, hcel⟩ := HC7.out (by omega)
      subst hg7
      obtain ⟨s, hs⟩ : ∃ s, N[k]? = some s := ⟨_, List.getElem?_eq_getElem (by rw [HNl.out]; exact hlt)⟩
      have hsm := List.mem_of_getElem? hs
      obtain ⟨gs, hgs⟩ : ∃ gs, f s = some gs := Option.isSome_iff_exists.1 ((HT.out.2.2.2.2.2.2 s).1 hsm)
      have hx : wr.cell? ⟨g7, k, none⟩ = some (.string s) := by
        have h1 : W2.cell? ⟨g7, k, none⟩ = some (.string s) := by
          have h2 := hcel k hlt
          rw [List.getD_eq_getElem?_getD, hs] at h2
          exact h2
        refine Eq.trans ?_ h1
        exact World.cell?_of_block (a := ⟨g7, k, none⟩) (HI.out.1.block g7 hlt7 (by have := X3.out.lt; omega))
      have hzs := HT.out.2.2.2.1 s hsm
      have hrl := HT.out.2.2.1 s gs hgs
      obtain ⟨gv, hgv⟩ : ∃ gv, getG A s = some gv ∧ SlG W0 gv gs := by
        have h1 := HT.out.2.1 s
        rw [hgs] at h1
        cases hg : getG A s with
        | none => rw [hg] at h1; exact h1.elim
        | some gv => rw [hg] at h1; exact ⟨gv, rfl, h1⟩
      obtain ⟨hgv1, hgv2⟩ := hgv
      obtain ⟨ag, ng, cg, hgvl⟩ : ∃ a n c, gv = .slice a n c := by obtain ⟨a, c, e, _⟩ := id hgv2; exact ⟨_, _, _, e⟩
      subst hgvl
      have hbp : b < p3 := by have := HPP.out; omega
      have HLK : Hid (∀ w, Kx p3 W2 w → (Instr.lookup 93 (.map (some b)) (.string s) false).run Tryz.prog w = .ok (.slice ag ng cg) w) := Lib.hid (fun w hw => by
        have h1 := (((HT.out.1.keep HB2.out).lift (hw.block b (by have := HB2.out.size; omega) (by omega))).look s hzs)
        rw [hgv1] at h1
        exact h1)
      have HGS : Hid ((∀ w, Kx p3 W2 w → SlG w (.slice ag ng cg) gs) ∧ (∀ g ∈ gs, gradeErr g = 0) ∧ gs.length ≤ 1000) := Lib.hid ⟨fun w hw => hgv2.keep (below_kx HB02.out hw (by have := HB0.out.size; have := HPP.out; omega) HB02.out.size), hrl.small.2, by have := hrl.small.1; omega⟩
      have HS := Lib.hid (And.intro hs (And.intro hgs hzs))
      have HZL : Hid (Z.length ≤ 1000000) := Lib.hid (by
        have h1 := congrArg List.length HI.out.2.2.2
        rw [rzR_len] at h1
        have h2 : (rowsOf f (N.take k)).length ≤ (N.take k).length := List.length_filterMap_le _ _
        rw [List.length_take] at h2
        omega)
      have hd1 : decide ((k : Int) < (n : Int)) = true := decide_eq_true (by omega)
      have hkn : (k : Int) < (n : Int) := by omega
      clear hs hsm hgs hcel hzs hrl hgv1 hgv2 hn3
      go_upto_region 5 with fail
      clear hx hd1 hkn
      refine wp_region_inv 12 (fun qz u' => if qz = 6 then True else if qz = 7 then True else if qz = 8 then True else if qz = 9 then True else u' = [(.pointer (some ⟨p3, 0, none⟩)), (.slice a3 n3 c3), (.string s), (.map (some b)), (.string s), (.slice ag ng cg), undef, undef, undef, undef, (.pointer (some ⟨p3, 0, none⟩)), undef].getD qz undef) (fun d vs w' => LE W2 p3 F Z s gs (.slice a3 n3 c3) (d 1) (d 6) (d 7) (d 8) (d 9) (d 11) (vs 6) (vs 7) (vs 8) (vs 9) w') (by kernel_rfl) (by kernel_rfl) ?_ ?_ ?_
      · intro vs
        exact LE.keep (w := wr) ⟨HI.out.1, HI.out.2.1, fun _ => HI.out.2.2.1, fun e => (by cases e), fun e => (by cases e), fun e => (by cases e), fun e => (by cases e), fun e => (by cases e), fun e => (by cases e), fun e => (by cases e), fun e => (by cases e), fun e => (by cases e), fun e => (by cases e)⟩ ((Below.refl _ _).drew)
      · intro iq oq hi ho
        rcases (by omega : iq = 0 ∨ iq = 1 ∨ iq = 2 ∨ iq = 3 ∨ iq = 4 ∨ iq = 5 ∨ iq = 6 ∨ iq = 7 ∨ iq = 8 ∨ iq = 9 ∨ iq = 10 ∨ iq = 11) with rfl | rfl | rfl | rfl | rfl | rfl | rfl | rfl | rfl | rfl | rfl | rfl
        all_goals simp only [List.getElem?_cons_zero, List.getElem?_cons_succ, Option.some.injEq] at ho
        all_goals subst ho
        all_goals intro d a0 wx hI hag hdep hun
        · have e0 := slot_eq (hag 3 rfl)
          exact inv_val (v := (.pointer (some ⟨p3, 0, none⟩))) (by simp [go_sem, e0]) (fun h => (by cases h)) rfl hI
        · have hq := hI.ld hun
          have e0 := slot_eq (hdep ⟨0, .data⟩ (by simp) rfl).1
          exact inv_val (v := (.slice a3 n3 c3)) (by simp [go_sem, e0, hq]) (fun h => (by cases h)) rfl (LE.set1 hI)
        · have e0 := slot_eq (hag 5 rfl)
          exact inv_val (v := (.string s)) (by simp [go_sem, e0]) (fun h => (by cases h)) rfl hI
        · have e0 := slot_eq (hag 0 rfl)
          exact inv_val (v := (.map (some b))) (by simp [go_sem, e0]) (fun h => (by cases h)) rfl hI
        · have e0 := slot_eq (hag 5 rfl)
          exact inv_val (v := (.string s)) (by simp [go_sem, e0]) (fun h => (by cases h)) rfl hI
        · have hl := HLK.out wx hI.kx
          have e0 := slot_eq (hdep ⟨3, .data⟩ (by simp) rfl).1
          have e1 := slot_eq (hdep ⟨4, .data⟩ (by simp) rfl).1
          exact inv_val (v := (.slice ag ng cg)) (by simp [go_sem, e0, e1, hl]) (fun h => (by cases h)) rfl hI
        · have e0 := slot_eq (hdep ⟨5, .data⟩ (by simp) rfl).1
          refine inv_call (f := 57) (args := #[(.slice ag ng cg)]) (run_go_call Tryz.func57 (by kernel_rfl) (by kernel_rfl) _ _ _ _ _ _ _ _ _ _ (by simp [Act.eval, e0])) (fun h => (by cases h)) ?_
          refine (conform_cloned _ gs wx (HGS.out.1 wx hI.kx) HGS.out.2.1 HGS.out.2.2).mono ?_
          rintro e w' ⟨u', rfl, ho, hb⟩
          exact ⟨u', rfl, trivial, LE.set6 hI hun (fun q hq => Nat.lt_of_lt_of_le ((HF.out q).1 hq) hI.kx.size) ho hb⟩
        · have e0 := slot_eq (hdep ⟨2, .data⟩ (by simp) rfl).1
          have h6 := (hdep ⟨6, .data⟩ (by simp) rfl).2
          obtain ⟨a6, n6, k6, h6e⟩ := hI.cl h6
          have e1 := slot_eq h6e
          exact inv_val (v := .agg #[.string s, (.slice a6 n6 k6)]) (by simp [go_sem, e0, e1]) (fun h => (by cases h)) trivial (LE.set7 hI h6 (by rw [h6e]; rfl))
        · have h7 := (hdep ⟨7, .data⟩ (by simp) rfl).2
          obtain ⟨a6, n6, k6, h6e⟩ := hI.cl (hI.o76 h7)
          have h7e := hI.k7 h7
          rw [h6e] at h7e
          have e0 := slot_eq h7e
          exact inv_val (v := .slice (some ⟨wx.heap.size, 0, none⟩) 1 1) (w' := wx.alloc (.cells #[.string s, (.slice a6 n6 k6)] 89)) (by simp [go_sem, e0]) (fun h => (by cases h)) trivial (LE.set8 hI h7 hun h6e.symm)
        · have h8 := (hdep ⟨8, .data⟩ (by simp) rfl).2
          have h1 := (hdep ⟨1, .data⟩ (by simp) rfl).2
          have h6 := hI.o76 (hI.o87 h8)
          obtain ⟨a6, n6, k6, h6e⟩ := hI.cl h6
          obtain ⟨g8, hg8, hx8⟩ := hI.sb h8 hun
          have e0 := slot_eq (hdep ⟨1, .data⟩ (by simp) rfl).1
          have e1 := slot_eq hg8
          exact inv_app_row (.tmp 14) (.tmp 21) rfl (by simp [Act.eval, e0]) g8 1 (by simp [Act.eval, e1]) (hI.rw0 hun).own hx8 (by rw [h6e]; rfl) HZL.out hI.kx.size (by decide) (fun v9 w9 k1 k2 k3 => ⟨trivial, LE.set9 hI h1 h6 h8 hun HP3.out.1 k1 k2 k3⟩)
        · have e0 := slot_eq (hag 3 rfl)
          exact inv_val (v := (.pointer (some ⟨p3, 0, none⟩))) (by simp [go_sem, e0]) (fun h => (by cases h)) rfl hI
        · have e0 := slot_eq (hdep ⟨10, .data⟩ (by simp) rfl).1
          have h9 := (hdep ⟨9, .data⟩ (by simp) rfl).2
          obtain ⟨pa, ca, hv9⟩ := (hI.rw1 h9).form
          have e1 := slot_eq hv9
          obtain ⟨qx, fx, _⟩ := hI.bx.all
          have hf := fx 0
          obtain ⟨uu, hq⟩ : ∃ uu, wx.cell? ⟨p3, 0, none⟩ = some uu := ⟨_, (qx 0).trans rfl⟩
          have hS := hI.set11 h9 HP3.out.1 HP3.out.2
          refine inv_skip (w' := wx.setCell ⟨p3, 0, none⟩ (slotOf _ a0 9)) ?_ rfl hS
          rw [hv9]
          clear hS hI hag hdep hv9 qx fx
          simp [go_sem, e0, e1, hq, hf]
      · intro d vs w6 hd hI hA
        have k0 : vs 0 = (.pointer (some ⟨p3, 0, none⟩)) := hA 0 (by omega)
        have k1 : vs 1 = (.slice a3 n3 c3) := hA 1 (by omega)
        have k2 : vs 2 = (.string s) := hA 2 (by omega)
        have k3 : vs 3 = (.map (some b)) := hA 3 (by omega)
        have k4 : vs 4 = (.string s) := hA 4 (by omega)
        have k5 : vs 5 = (.slice ag ng cg) := hA 5 (by omega)
        have k10 : vs 10 = (.pointer (some ⟨p3, 0, none⟩)) := hA 10 (by omega)
        simp only [putAll, dstAt, List.getElem?_toArray, List.getElem?_cons_zero, List.getElem?_cons_succ, Option.bind_some, Option.bind_none, Act.put, List.setIfInBounds_toArray, List.set_cons_zero, List.set_cons_succ, k0, k1, k2, k3, k4, k5, k10]
        have hI6 : LE W2 p3 F Z s gs (.slice a3 n3 c3) true true true true true true (vs 6) (vs 7) (vs 8) (vs 9) w6 := by
          have h := hI
          simp only [hd 1 (by omega), hd 6 (by omega), hd 7 (by omega), hd 8 (by omega), hd 9 (by omega), hd 11 (by omega)] at h
          exact h
        generalize vs 6 = v6 at *
        generalize vs 7 = v7x at *
        generalize vs 8 = v8x at *
        generalize vs 9 = v9x at *
        have HN6 := Lib.hid hI6
        clear hI hA hd k0 k1 k2 k3 k4 k5 k10 hI6
        go_wp2_with fail
        go_roundw
        case rel =>
          have hx := HN6.out.bx
          rw [if_pos rfl] at hx
          refine ⟨k + 1, v9x, Z ++ [(s, v6, gs)], by omega, by go_num, Lib.hid ⟨HN6.out.kx, hx, HN6.out.rw1 rfl, ?_⟩⟩
          rw [rzR_append, HI.out.2.2.2, List.take_add_one, HS.out.1, rowsOf_append]
          congr 1
          show [(s, gs)] = rowsOf f [s]
          rw [rowsOf_cons, HS.out.2.1]
          rfl
        case measure => simp [RowKit.intOf]; omega
    · obtain rfl : n = k := by omega
      obtain ⟨a3, c3, hv⟩ := HI.out.2.2.1.form
      obtain ⟨n3, hn3⟩ : ∃ m, Z.length = m := ⟨_, rfl⟩
      rw [hn3] at hv
      subst hv
      have hx2 : Bx wr p2 57 #[.slice none 0 0] := (HI.out.1.block p2 HP2.out.1 (by have := HPP.out; omega)).trans X22.out
      have q3 := HI.out.2.1.all.1 0
      obtain ⟨q2, f2, _⟩ := hx2.all
      have q20 := q2 0
      have f20 := f2 0
      simp only [List.getElem?_toArray, List.getElem?_cons_zero] at q3 q20
      have HE : Hid ((SlL (wr.setCell ⟨p2, 0, none⟩ (.slice a3 n3 c3)) (.slice a3 n3 c3) (rowsOf f N) ∧ ∀ q i x, q < W.heap.size → SlL ((wr.setCell ⟨p2, 0, none⟩ (.slice a3 n3 c3)).setCell ⟨q, i, none⟩ x) (.slice a3 n3 c3) (rowsOf f N)) ∧ Below W.heap.size W (wr.setCell ⟨p2, 0, none⟩ (.slice a3 n3 c3))) := Lib.hid (by
        refine ⟨⟨?_, fun q i x hq => ?_⟩, ?_⟩
        · have h1 := (HI.out.2.2.1.put (i := 0) (u := .slice a3 n3 c3) HP2.out.1 HP2.out.2).sl
          rw [HI.out.2.2.2, ← HNl.out, List.take_length] at h1
          exact h1
        · have hq2 : q < W2.heap.size := by have := HB2.out.size; omega
          have h1 := ((HI.out.2.2.1.put (i := 0) (u := .slice a3 n3 c3) HP2.out.1 HP2.out.2).put (p := q) (i := i) (u := x) hq2 ((HF.out q).2 hq2)).sl
          rw [HI.out.2.2.2, ← HNl.out, List.take_length] at h1
          exact h1
        · have h2 := below_kx HB2.out HI.out.1 (by have := HPP.out; omega) HB2.out.size
          have := HPP.out
          exact bput (by omega) h2)
      have X8 : Hid (Bx (wr.setCell ⟨p2, 0, none⟩ (.slice a3 n3 c3)) p2 57 #[.slice a3 n3 c3]) := Lib.hid (by have := hx2.set 0 (.slice a3 n3 c3); simpa using this)
      clear hn3 hx2 q2 f2
      go_wp2_with fail
      refine bodyPost_ret (v := .agg #[.slice a3 n3 c3]) (results_cell_row (p := 2) (ty := 57) (by kernel_rfl) _ _ p2 57 #[.slice a3 n3 c3] (0, 0) _ rfl X8.out Tryz.underlying57 rfl (by kernel_rfl)) rfl ⟨_, rfl, HE.out.1, HE.out.2⟩
end Go.Proofs.YticekgnmiaidjaaGreatDoor
