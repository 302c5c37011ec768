/- grade.cloned: a grade whose curves lie in new memory. (printed by gen_gnn.py) -/
import Derived.Test.YticekgnmiaidjaaGreatDoorGnJ
import Derived.Test.YticekgnmiaidjaaGreatDoorInv
import Derived.Test.YticekgnmiaidjaaGreatDoorMem
import Derived.Test.YticekgnmiaidjaaGreatDoorDbQ
import Derived.RegionTactic
import Derived.BigGuardPart
import Derived.Lib.SliceRun
import Derived.Laws.CopyOwn
namespace Go.Proofs.YticekgnmiaidjaaGreatDoor

section
open Go.RowKit Go.Lib Ieee

end

section
open Go.RowKit Go.Lib

theorem Sl.dest {w : World} {v : Value} {xs : List Nat} (h : Sl w v xs) : ∃ a c, v = .slice a xs.length c ∧ (xs = [] ∨ ∃ b o, a = some ⟨b, o, none⟩ ∧ Rd w b o xs) := by
  rcases h with ⟨b, o, c, h1, _, h3⟩ | ⟨h0, a, c, h1⟩
  · exact ⟨_, c, h1, .inr ⟨b, o, rfl, h3⟩⟩
  · exact ⟨a, c, by rw [h1, h0]; rfl, .inl h0⟩
theorem OwF.sl {B : Nat} {w : World} {v : Value} {xs : List Nat} (h : OwF B w v xs) : Sl w v xs := by
  rcases h.2 with ⟨h0, h1⟩ | ⟨g, cap, cur, e1, e2, e3, e4, e5, e6, e7⟩
  · exact .inr ⟨List.length_eq_zero_iff.1 h1, _, _, h0⟩
  · by_cases hx : xs = []
    · exact .inr ⟨hx, _, cap, by rw [e1, hx]; rfl⟩
    · refine .inl ⟨g, 0, cap, e1, hx, (Array.getElem?_eq_some_iff.1 e3).1, fun k hk => ?_⟩
      have hb : Bx w g 23 cur := e3
      rw [hb.all.1, Nat.zero_add]
      have hq : (xs.map (Value.float .f32))[k]? = some (.float .f32 (xs.getD k 0)) := by
        rw [List.getElem?_map, List.getElem?_eq_getElem hk, List.getD_eq_getElem?_getD, List.getElem?_eq_getElem hk]; rfl
      rw [← e7, List.getElem?_take] at hq
      split at hq
      · rw [Array.getElem?_toList] at hq; exact hq
      · cases hq
theorem OwF.own {B : Nat} {w : World} {v : Value} {xs : List Nat} (h : OwF B w v xs) {b : Nat} (hb : v.ownBlock = some b) : B ≤ b ∧ b < w.heap.size ∧ ∃ cur, Bx w b 23 cur := by
  rcases h.2 with ⟨h0, h1⟩ | ⟨g, cap, cur, e1, e2, e3, e4⟩
  · rw [h0] at hb; cases hb
  · rw [e1] at hb
    simp only [Value.ownBlock, Option.some.injEq] at hb
    subst hb
    exact ⟨e2, (Array.getElem?_eq_some_iff.1 e3).1, cur, e3⟩
theorem OwF.at {B : Nat} {w w' : World} {v : Value} {xs : List Nat} (h : OwF B w v xs) (hk : ∀ b cur, v.ownBlock = some b → Bx w b 23 cur → w'.heap[b]? = w.heap[b]?) : OwF B w' v xs := by
  refine ⟨h.1, ?_⟩
  rcases h.2 with h0 | ⟨g, cap, cur, e1, e2, e3, e4⟩
  · exact .inl h0
  · exact .inr ⟨g, cap, cur, e1, e2, (hk g cur (by rw [e1]; rfl) e3).trans e3, e4⟩
theorem OwF.put {B p o : Nat} {w : World} {v u : Value} {xs : List Nat} {T : TypeId} {cs : Array Value} (h : OwF B w v xs) (hx : Bx w p T cs) (ht : T ≠ 23) : OwF B (w.setCell ⟨p, o, none⟩ u) v xs :=
  h.at fun b cur _ hb => by
    rw [Below.heap_setCell]
    exact hb.ne hx (Ne.symm ht)
set_option maxRecDepth 100000 in
set_option maxHeartbeats 4000000 in
/-- slices.Clone at singles, of any slice. -/
theorem sl_CloneF (v : Value) (xs : List Nat) (W : World) (hs : Sl W v xs) (hn : xs.length ≤ 1000000) : Calls Tryz.prog 68 #[v] W fun e w' => ∃ v', e = .returned v' ∧ OwF W.heap.size w' v' xs ∧ Below W.heap.size W w' := by
  obtain ⟨i0, hi, hz0, hz1, hz2⟩ := info_parts infoF
  have q22 : ∀ (w : World) (a : Option Addr) (n c n' c' : Nat), (binOp .eql 37 (.slice a n c) (.slice none n' c')).run Tryz.prog w = .ok (.bool a.isNone) w := fun w a n c n' c' => Lib.run_eql_slice_nil w _ _ a n c n' c' Tryz.underlying37
  obtain ⟨a, c, rfl, hrd⟩ := hs.dest
  have hml : maxLen = 9223372036854775807 := rfl
  cases a with
  | none =>
    have h0 : xs = [] := by
      rcases hrd with h | ⟨b, o, h, _⟩
      · exact h
      · cases h
    subst h0
    go_enter Tryz.func68, Tryz.ntmps68
    go_wp2_with fail
    go_ret
    exact ⟨_, rfl, ⟨rfl, .inl ⟨rfl, rfl⟩⟩, Below.refl _ _⟩
  | some ad =>
    have hcell : ∀ (j : Nat) (u : Value), (xs.map (Value.float .f32))[j]? = some u → W.cell? (ad.add j) = some u := by
      intro j u hj
      have hlt := (List.getElem?_eq_some_iff.1 hj).1
      rw [List.length_map] at hlt
      rcases hrd with h | ⟨b, o, h, hr⟩
      · rw [h] at hlt; simp at hlt
      · obtain rfl := Option.some.inj h
        rw [add_none, hr.2 j hlt, ← hj]
        simp [hlt]
    obtain ⟨n, hxn⟩ : ∃ n, xs.length = n := ⟨_, rfl⟩
    rw [hxn] at hn ⊢
    have HC := Lib.hid (And.intro hcell hxn)
    clear hcell hrd hs hxn
    go_enter Tryz.func68, Tryz.ntmps68
    go_wp2_with (at_builtin; refine wpList_append_own _ rfl _ _ 37 rfl W.heap.size 23 i0 (.float .f32 0) 1 4 Tryz.underlying37 hi hz0 hz1 hz2 rfl (by decide) _ _ _ rfl (World.ownsRow_made W #[] 0 (Nat.le_refl _) (Nat.zero_le _) rfl) ad n c (xs.map (Value.float .f32)) rfl ?qc1 ?qc2 ?qc3 ?qc4 ?qc5 ?qc6 ?_)
    case qc1 => rw [List.length_map, HC.out.2, Nat.mul_one]
    case qc2 =>
      intro j u hj
      exact Lib.cell?_alloc_some _ (HC.out.1 j u hj)
    case qc3 =>
      intro u hu
      obtain ⟨x, _, rfl⟩ := List.mem_map.1 hu
      rfl
    case qc4 => omega
    case qc5 => omega
    case qc6 => exact Nat.le_trans (Nat.le_succ _) (Nat.le_of_eq (Array.size_push _).symm)
    intro v' w1 hown hgrow hnil
    have HO := Lib.hid (And.intro hown hgrow)
    obtain ⟨pa, na, ca, hv'⟩ : ∃ a n c, v' = .slice a n c := by
      rcases hown.2 with ⟨h0, _⟩ | ⟨g, cap, cur, h0, _⟩
      · exact ⟨_, _, _, h0⟩
      · exact ⟨_, _, _, h0⟩
    subst hv'
    clear hown hgrow hnil
    go_wp2
    go_ret
    refine ⟨_, rfl, ?_, ?_⟩
    · have h := HO.out.1
      unfold OwF
      rw [HC.out.2]
      exact h
    · exact ((Below.refl _ W).alloc (Nat.le_refl _) _).grown HO.out.2 (Nat.le_trans (Nat.le_succ _) (Nat.le_of_eq (Array.size_push _).symm)) (by intro k hk; simp only [Value.ownBlock, Option.some.injEq] at hk; omega)

/-- As before but for the block p and new ones. -/
structure Kx (p : Nat) (a b : World) : Prop where
  os : b.os = a.os
  tape : b.tape = a.tape
  output : b.output = a.output
  size : a.heap.size ≤ b.heap.size
  block : ∀ k, k < a.heap.size → k ≠ p → b.heap[k]? = a.heap[k]?
theorem Kx.refl (p : Nat) (a : World) : Kx p a a := ⟨rfl, rfl, rfl, Nat.le_refl _, fun _ _ _ => rfl⟩
theorem Kx.call {p : Nat} {a b c : World} (h : Kx p a b) (hb : Below b.heap.size b c) : Kx p a c :=
  ⟨hb.os.trans h.os, hb.tape.trans h.tape, hb.output.trans h.output, Nat.le_trans h.size hb.size, fun k hk hp => (hb.block k (Nat.lt_of_lt_of_le hk h.size)).trans (h.block k hk hp)⟩
theorem Kx.put {p o : Nat} {a b : World} {v : Value} (h : Kx p a b) : Kx p a (b.setCell ⟨p, o, none⟩ v) :=
  have k := (Only.refl p b).set o v
  ⟨k.os.trans h.os, k.tape.trans h.tape, k.output.trans h.output, by rw [k.size]; exact h.size, fun q hq hp => (k.block q hp).trans (h.block q hq hp)⟩
theorem Kx.trans {p : Nat} {a b c : World} (h : Kx p a b) (g : Kx p b c) : Kx p a c :=
  ⟨g.os.trans h.os, g.tape.trans h.tape, g.output.trans h.output, Nat.le_trans h.size g.size, fun k hk hp => (g.block k (Nat.lt_of_lt_of_le hk h.size) hp).trans (h.block k hk hp)⟩
theorem below_kx {B p : Nat} {w a b : World} (h : Below B w a) (k : Kx p a b) (hp : B ≤ p) (hs : B ≤ a.heap.size) : Below B w b :=
  ⟨k.os.trans h.os, k.tape.trans h.tape, k.output.trans h.output, Nat.le_trans h.size k.size, fun q hq => (k.block q (Nat.lt_of_lt_of_le hq hs) (by omega)).trans (h.block q hq)⟩
theorem Kx.bx {p : Nat} {a b : World} (k : Kx p a b) {q : Nat} {T : TypeId} {cs : Array Value} (h : Bx a q T cs) (hp : q ≠ p) : Bx b q T cs := (k.block q h.lt hp).trans h

def cvC (q : Nat) : Nat := 20 + q / 2 * 3 + (1 + q % 2)
/-- A round under way: the clones v4 and v7, laid or not. -/
structure CE (p : Nat) (W2 : World) (Cj : Array Value) (X Y : Nat) (xs ys : List Nat) (d4 d7 d11 d15 : Bool) (v4 v7 : Value) (w : World) : Prop where
  kx : Kx p W2 w
  bx : Bx w p 46 (if d15 then (if d11 then Cj.setIfInBounds X v4 else Cj).setIfInBounds Y v7 else if d11 then Cj.setIfInBounds X v4 else Cj)
  a4 : d4 = true → OwF W2.heap.size w v4 xs
  a7 : d7 = true → OwF W2.heap.size w v7 ys
  ap : d4 = true → d7 = true → ∀ b, v4.ownBlock = some b → v7.ownBlock ≠ some b
  o11 : d11 = true → d4 = true
  o15 : d15 = true → d7 = true
section
variable {p : Nat} {W2 : World} {Cj : Array Value} {X Y : Nat} {xs ys : List Nat} {d4 d7 d11 d15 : Bool} {v4 v7 : Value} {w w' : World}
theorem CE.keep (h : CE p W2 Cj X Y xs ys d4 d7 d11 d15 v4 v7 w) (hb : Below w.heap.size w w') : CE p W2 Cj X Y xs ys d4 d7 d11 d15 v4 v7 w' :=
  ⟨h.kx.call hb, h.bx.keep hb, fun e => (h.a4 e).keep hb, fun e => (h.a7 e).keep hb, h.ap, h.o11, h.o15⟩
theorem CE.set4 (h : CE p W2 Cj X Y xs ys d4 d7 d11 d15 v4 v7 w) (h4 : d4 = false) {u : Value} (ho : OwF w.heap.size w' u xs) (hb : Below w.heap.size w w') : CE p W2 Cj X Y xs ys true d7 d11 d15 u v7 w' := by
  have k := h.keep hb
  have h11 : d11 = false := by
    cases d11
    · rfl
    · have := h.o11 rfl; rw [h4] at this; cases this
  subst h11
  refine ⟨k.kx, k.bx, fun _ => ho.mono h.kx.size, k.a7, fun _ e7 b e1 e2 => ?_, fun e => (by cases e), k.o15⟩
  have h1 := (ho.own e1).1
  have h2 := ((h.a7 e7).own e2).2.1
  omega
theorem CE.set7 (h : CE p W2 Cj X Y xs ys d4 d7 d11 d15 v4 v7 w) (h7 : d7 = false) {u : Value} (ho : OwF w.heap.size w' u ys) (hb : Below w.heap.size w w') : CE p W2 Cj X Y xs ys d4 true d11 d15 v4 u w' := by
  have k := h.keep hb
  have h15 : d15 = false := by
    cases d15
    · rfl
    · have := h.o15 rfl; rw [h7] at this; cases this
  subst h15
  refine ⟨k.kx, k.bx, k.a4, fun _ => ho.mono h.kx.size, fun e4 _ b e1 e2 => ?_, k.o11, fun e => (by cases e)⟩
  have h1 := (ho.own e2).1
  have h2 := ((h.a4 e4).own e1).2.1
  omega
theorem CE.set11 (h : CE p W2 Cj X Y xs ys d4 d7 d11 d15 v4 v7 w) (h4 : d4 = true) (h11 : d11 = false) (hXY : X ≠ Y) : CE p W2 Cj X Y xs ys d4 d7 true d15 v4 v7 (w.setCell ⟨p, X, none⟩ v4) := by
  subst h11
  refine ⟨h.kx.put, ?_, fun e => (h.a4 e).put h.bx (by decide), fun e => (h.a7 e).put h.bx (by decide), h.ap, fun _ => h4, h.o15⟩
  have := h.bx.set X v4
  cases d15
  · exact this
  · rw [if_pos rfl, if_neg (by decide)] at this
    rw [if_pos rfl, if_pos rfl, Array.setIfInBounds_comm _ _ hXY]
    exact this
theorem CE.set15 (h : CE p W2 Cj X Y xs ys d4 d7 d11 d15 v4 v7 w) (h7 : d7 = true) (h15 : d15 = false) : CE p W2 Cj X Y xs ys d4 d7 d11 true v4 v7 (w.setCell ⟨p, Y, none⟩ v7) := by
  subst h15
  refine ⟨h.kx.put, ?_, fun e => (h.a4 e).put h.bx (by decide), fun e => (h.a7 e).put h.bx (by decide), h.ap, h.o11, fun _ => h7⟩
  have := h.bx.set Y v7
  rw [if_neg (by decide)] at this
  rw [if_pos rfl]
  exact this
end
theorem cvC_inj {q q' : Nat} (h : cvC q = cvC q') : q = q' := by unfold cvC at h; omega
theorem OwF.kx {B p : Nat} {a b : World} {v : Value} {xs : List Nat} {T : TypeId} {cs : Array Value} (h : OwF B a v xs) (k : Kx p a b) (hx : Bx a p T cs) (ht : T ≠ 23) : OwF B b v xs :=
  h.at fun g cur _ hg => k.block g hg.lt (hg.ne hx (Ne.symm ht))
theorem OwF.one {B : Nat} {w : World} {v : Value} {xs : List Nat} (h : OwF B w v xs) : v.oneCell' = true := by
  obtain ⟨a, n, c, rfl⟩ := h.form
  simp [Value.oneCell']
theorem all_set {C : Array Value} {p : Value → Bool} {i : Nat} {v : Value} (h : C.all p = true) (hv : p v = true) : (C.setIfInBounds i v).all p = true := by
  rw [all_of_get] at h ⊢
  intro j u hj
  by_cases hij : i = j
  · subst hij
    by_cases hl : i < C.size
    · rw [Array.getElem?_setIfInBounds_self_of_lt hl] at hj
      rw [← Option.some.inj hj]; exact hv
    · rw [Array.getElem?_eq_none (by simp; omega)] at hj; cases hj
  · rw [Array.getElem?_setIfInBounds_ne hij] at hj
    exact h j u hj
end
end Go.Proofs.YticekgnmiaidjaaGreatDoor
