/- A list of integers that the call gathers by append: its block is none of those that are kept. -/
import Derived.Test.YtemlabmmafcapaaGreatDoorDaM
import Derived.Deep.AppendLies
import Derived.OwnWalk
namespace Go.Proofs.YtemlabmmafcapaaGreatDoor
open Go.RowKit

theorem own_below {w w' : World} {B : Nat} {e : TypeId} {s : Nat} {v : Value} {n : Nat} {xs : List Value} (h : w.ownsRow B e s v n xs) (hb : Below w.heap.size w w') : w'.ownsRow B e s v n xs := by
  refine ⟨h.1, ?_⟩
  rcases h.2 with h0 | ⟨g, cap, cur, e1, e2, e3, e4⟩
  · exact .inl h0
  · exact .inr ⟨g, cap, cur, e1, e2, (hb.block g (Array.getElem?_eq_some_iff.1 e3).1).trans e3, e4⟩
theorem own_set {w : World} {B b o : Nat} {e : TypeId} {s : Nat} {v u : Value} {n : Nat} {xs : List Value} (h : w.ownsRow B e s v n xs) (hb : b < B) : (w.setCell ⟨b, o, none⟩ u).ownsRow B e s v n xs := by
  refine ⟨h.1, ?_⟩
  rcases h.2 with h0 | ⟨g, cap, cur, e1, e2, e3, e4⟩
  · exact .inl h0
  · exact .inr ⟨g, cap, cur, e1, e2, by rw [Below.heap_setCell _ _ _ _ (by dsimp only; omega)]; exact e3, e4⟩
theorem Bx.grown {w w' : World} {b : Nat} {T : TypeId} {cs : Array Value} {row : Option Nat} (h : Bx w b T cs) (hg : w.grownBy w' row) (hne : row ≠ some b) : Bx w' b T cs := by
  unfold Bx
  rw [hg.block b h.lt (fun e => hne e.symm)]
  exact h

theorem nm_call {P : Program} {f : FuncId} {args : Array Value} {w0 : World} {Q : Ending → World → Prop} (h : ∀ wb, wb = w0 → Calls P f args wb Q) : Calls P f args w0 Q := h _ rfl

theorem infoI8 : (Tryz.prog.info? 3).map (fun i => (i.zero, i.size, i.bytes)) = some (some (.int .i64 0), 1, 8) := by kernel_rfl
/-- v is a slice of the call's own that reads as zs; its block is none of K. -/
def Mk (B : Nat) (w : World) (v : Value) (zs : List Int) (K : List Nat) : Prop :=
  ∃ g cap, v = .slice (some ⟨g, 0, none⟩) zs.length cap ∧ w.ownsRow B 3 1 v zs.length (zs.map (Value.int .i64)) ∧ B ≤ g ∧ g < w.heap.size ∧ ∀ k, k ∈ K → g ≠ k
theorem Mk.below {B : Nat} {w w' : World} {v : Value} {zs : List Int} {K : List Nat} (h : Mk B w v zs K) (hb : Below w.heap.size w w') : Mk B w' v zs K := by
  obtain ⟨g, cap, rfl, h1, h2, h3, h4⟩ := h
  exact ⟨g, cap, rfl, own_below h1 hb, h2, Nat.lt_of_lt_of_le h3 hb.size, h4⟩
/-- One block more to keep: a new one. -/
theorem Mk.more {B p : Nat} {w w' : World} {v : Value} {zs : List Int} {K : List Nat} (h : Mk B w v zs K) (hb : Below w.heap.size w w') (hp : w.heap.size ≤ p) : Mk B w' v zs (p :: K) := by
  obtain ⟨g, cap, rfl, h1, h2, h3, h4⟩ := h
  refine ⟨g, cap, rfl, own_below h1 hb, h2, Nat.lt_of_lt_of_le h3 hb.size, fun k hk => ?_⟩
  rcases List.mem_cons.1 hk with rfl | hk
  · omega
  · exact h4 k hk
theorem Mk.less {B : Nat} {w : World} {v : Value} {zs : List Int} {K K' : List Nat} (h : Mk B w v zs K) (hs : ∀ k, k ∈ K' → k ∈ K) : Mk B w v zs K' := by
  obtain ⟨g, cap, rfl, h1, h2, h3, h4⟩ := h
  exact ⟨g, cap, rfl, h1, h2, h3, fun k hk => h4 k (hs k hk)⟩
theorem Mk.start {B g n : Nat} {w : World} {z : List Int} {K : List Nat} (hx : Bx w g 3 (z.map (Value.int .i64)).toArray) (hn : n = z.length) (hz : z.length ≤ maxLen) (hB : B ≤ g) (hK : ∀ k, k ∈ K → g ≠ k) : Mk B w (.slice (some ⟨g, 0, none⟩) n n) z K := by
  subst hn
  refine ⟨g, z.length, rfl, ⟨by simp, .inr ⟨g, z.length, (z.map (Value.int .i64)).toArray, rfl, hB, hx, Nat.le_refl _, hz, by simp, ?_⟩⟩, hB, hx.lt, hK⟩
  rw [Nat.mul_one, List.take_of_length_le (by simp)]
theorem Mk.notnil {B : Nat} {w : World} {v : Value} {zs : List Int} {K : List Nat} (h : Mk B w v zs K) : v ≠ .slice none 0 0 := by
  obtain ⟨g, cap, rfl, _⟩ := h
  intro e; cases e
theorem mk_append {B : Nat} {w : World} {zs nz : List Int} {v : Value} {K : List Nat} {ops : Array Oper} {rest : List Oper} {o : Oper} {a : Act} {Q : Exit → Act → World → Prop} (hgd : o.guard = none) (s x : Operand)
    (ho : o.op = .call { callee := .builtin .append, args := #[s, x], argTypes := #[77, 77] }) (hs : a.eval s = v) (g c m : Nat) (hx : a.eval x = .slice (some ⟨g, 0, none⟩) m c) (hnm : m = nz.length) (hm : Mk B w v zs K)
    (hc : Bx w g 3 (nz.map (Value.int .i64)).toArray) (hn : 0 < nz.length) (hl : zs.length + nz.length ≤ 1000000) (hB : B ≤ w.heap.size) (hK : ∀ k, k ∈ K → k < w.heap.size)
    (h : ∀ v' w', Mk B w' v' (zs ++ nz) K → (∀ k T cs, k ∈ K → Bx w k T cs → Bx w' k T cs) → (∀ W0, Below B W0 w → Below B W0 w') → w.heap.size ≤ w'.heap.size → wpList Tryz.prog ops Q rest (a.put o.dst v') w') :
    wpList Tryz.prog ops Q (o :: rest) a w := by
  subst hnm
  obtain ⟨g0, cap, rfl, h1, h2, h3, h4⟩ := hm
  obtain ⟨i0, hi, hz0, hz1, hz2⟩ := info_parts infoI8
  have hml : maxLen = 9223372036854775807 := rfl
  refine wpList_append_lies w hgd s x 77 ho B 3 i0 (.int .i64 0) 1 8 Tryz.underlying77 hi hz0 hz1 hz2 rfl (by decide) _ zs.length (zs.map (Value.int .i64)) hs h1 ⟨g, 0, none⟩ nz.length c (nz.map (Value.int .i64)) hx (by simp) ?_ ?_ hn (by omega) (by omega) hB _ rfl ?_
  · intro j u hj
    have := hc.all.1 j
    rw [show ((⟨g, 0, none⟩ : Addr).add j) = ⟨g, j, none⟩ by simp [Addr.add]; intro e; exact e.symm, this]
    simpa using hj
  · intro u hu
    obtain ⟨z, _, rfl⟩ := List.mem_map.1 hu
    rfl
  · intro g' cap' w' hown hgrow hat hlt
    have hsz : w.heap.size ≤ w'.heap.size := hgrow.size
    have hg' : g' = g0 ∨ g' = w.heap.size := by
      rcases hat with e | e
      · left
        simp only [Value.ownBlock, Option.some.injEq] at e
        exact e.symm
      · exact .inr e
    refine h _ w' ⟨g', cap', by rw [List.length_append], ?_, ?_, hlt, fun k hk => ?_⟩ (fun k T cs hk hb => ?_) (fun W0 hb => ?_) hsz
    · rw [List.map_append, List.length_append]; exact hown
    · rcases hg' with e | e <;> omega
    · rcases hg' with e | e
      · rw [e]; exact h4 k hk
      · have := hK k hk; omega
    · exact hb.grown hgrow (fun e => h4 k hk (by simpa [Value.ownBlock] using e))
    · exact hb.grown hgrow hB (fun k hk => by
        simp only [Value.ownBlock, Option.some.injEq] at hk
        omega)
end Go.Proofs.YtemlabmmafcapaaGreatDoor
