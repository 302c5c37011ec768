/- Slices of texts that a call has made; sorting them. -/
import Derived.Test.YtilninaminaadaaGreatDoorRvT
import Derived.Test.YtilninaminaadaaGreatDoorRvM
import Derived.Deep.AppendLies
import Derived.OwnWalk
import Derived.Lib.OwnBridge
namespace Go.Proofs.YtilninaminaadaaGreatDoor
open Go.RowKit

/-- All blocks but g are as they were; others may have come. -/
structure Oth (g : Nat) (w w' : World) : Prop where
  os : w'.os = w.os
  tape : w'.tape = w.tape
  output : w'.output = w.output
  size : w.heap.size ≤ w'.heap.size
  block : ∀ k, k < w.heap.size → k ≠ g → w'.heap[k]? = w.heap[k]?
theorem infoS : (Tryz.prog.info? 9).map (fun i => (i.zero, i.size, i.bytes)) = some (some (.string ⟨#[]⟩), 1, 16) := by kernel_rfl
def OwnS (B : Nat) (w : World) (v : Value) (S : List ByteArray) : Prop := w.ownsRow B 9 1 v S.length (S.map Value.string)
theorem own_keepg {w w' : World} {B : Nat} {e : TypeId} {s : Nat} {v : Value} {n : Nat} {xs : List Value} (h : w.ownsRow B e s v n xs) (hk : ∀ g, v.ownBlock = some g → g < w.heap.size → w'.heap[g]? = w.heap[g]?) : w'.ownsRow B e s v n xs := by
  refine ⟨h.1, ?_⟩
  rcases h.2 with h0 | ⟨g, cap, cur, e1, e2, e3, e4⟩
  · exact .inl h0
  · exact .inr ⟨g, cap, cur, e1, e2, (hk g (by rw [e1]; rfl) (Array.getElem?_eq_some_iff.1 e3).1).trans e3, e4⟩
theorem OwnS.keep {B : Nat} {w w' : World} {v : Value} {S : List ByteArray} (h : OwnS B w v S) (hb : Below w.heap.size w w') : OwnS B w' v S := own_keepg h fun g _ hg => hb.block g hg
theorem OwnS.form {B : Nat} {w : World} {v : Value} {S : List ByteArray} (h : OwnS B w v S) : (S = [] ∧ v = .slice none 0 0) ∨ ∃ g cap, v = .slice (some ⟨g, 0, none⟩) S.length cap ∧ B ≤ g ∧ g < w.heap.size ∧ S.length ≤ cap ∧ ∀ k, k < S.length → w.cell? ⟨g, k, none⟩ = some (.string (S.getD k default)) := by
  rcases h.2 with ⟨h0, h1⟩ | ⟨g, cap, cur, e1, e2, e3, e4, e5, e6, e7⟩
  · left; exact ⟨List.eq_nil_of_length_eq_zero h1, h0⟩
  · refine .inr ⟨g, cap, e1, e2, (Array.getElem?_eq_some_iff.1 e3).1, e4, fun k hk => ?_⟩
    rw [cell_of_row w g k cur _ (0, 0) e3]
    have h1 : (cur.toList.take (S.length * 1))[k]? = (S.map Value.string)[k]? := by rw [e7]
    rw [List.getElem?_take, if_pos (by omega)] at h1
    simpa [hk] using h1

/-- What an append leaves. -/
structure Apd (B : Nat) (w w' : World) (v v' : Value) : Prop where
  grown : w.grownBy w' v.ownBlock
  size : w.heap.size ≤ w'.heap.size
  at_ : ∃ g cap n, v' = .slice (some ⟨g, 0, none⟩) n cap ∧ (v.ownBlock = some g ∨ g = w.heap.size) ∧ B ≤ g ∧ g < w'.heap.size
theorem Apd.bx {B : Nat} {w w' : World} {v v' : Value} (h : Apd B w w' v v') {b : Nat} {T : TypeId} {cs : Array Value} (x : Bx w b T cs) (hne : v.ownBlock ≠ some b) : Bx w' b T cs := by
  unfold Bx
  rw [h.grown.block b x.lt (fun e => hne e.symm)]; exact x
theorem Apd.below {B W0 : Nat} {w0 w w' : World} {v v' : Value} (h : Apd B w w' v v') (hb : Below W0 w0 w) (hW : W0 ≤ B) (hB : B ≤ w.heap.size) (hv : ∀ g, v.ownBlock = some g → W0 ≤ g) : Below W0 w0 w' := hb.grown h.grown (by omega) hv
theorem Apd.own {B : Nat} {w w' : World} {v v' : Value} (h : Apd B w w' v v') {B2 s n : Nat} {e : TypeId} {v2 : Value} {xs : List Value} (x : w.ownsRow B2 e s v2 n xs) (hne : ∀ g, v2.ownBlock = some g → v.ownBlock ≠ some g) : w'.ownsRow B2 e s v2 n xs :=
  own_keepg x fun g hg hlt => h.grown.block g hlt (fun e => hne g hg e.symm)
theorem OwnS.base {B : Nat} {w : World} {v : Value} {S : List ByteArray} (h : OwnS B w v S) : ∀ g, v.ownBlock = some g → B ≤ g ∧ g < w.heap.size := by
  intro g hg
  rcases h.form with ⟨_, rfl⟩ | ⟨g', cap, rfl, h1, h2, _⟩
  · cases hg
  · simp only [Value.ownBlock, Option.some.injEq] at hg; omega
theorem str_append {B : Nat} {w : World} {L : List ByteArray} {p : ByteArray} {v : Value} {ops : Array Oper} {rest : List Oper} {o : Oper} {a : Act} {Q : Exit → Act → World → Prop} (hgd : o.guard = none) (s x : Operand)
    (ho : o.op = .call { callee := .builtin .append, args := #[s, x], argTypes := #[48, 48] }) (hs : a.eval s = v) (g : Nat) (hx : a.eval x = .slice (some ⟨g, 0, none⟩) 1 1) (hm : OwnS B w v L)
    (hc : Bx w g 9 #[.string p]) (hl : L.length ≤ 1000000000) (hB : B ≤ w.heap.size)
    (h : ∀ v' w', OwnS B w' v' (L ++ [p]) → Apd B w w' v v' → wpList Tryz.prog ops Q rest (a.put o.dst v') w') :
    wpList Tryz.prog ops Q (o :: rest) a w := by
  obtain ⟨i0, hi, hz0, hz1, hz2⟩ := info_parts infoS
  have hml : maxLen = 9223372036854775807 := rfl
  refine wpList_append_lies w hgd s x 48 ho B 9 i0 (.string ⟨#[]⟩) 1 16 Tryz.underlying48 hi hz0 hz1 hz2 rfl (by decide) _ L.length (L.map Value.string) hs hm ⟨g, 0, none⟩ 1 1 [.string p] hx rfl ?_ ?_ (by omega) (by omega) (by omega) hB _ rfl ?_
  · intro j u hj
    have := hc.all.1 j
    rw [show ((⟨g, 0, none⟩ : Addr).add j) = ⟨g, j, none⟩ by simp [Addr.add]; intro e; exact e.symm, this]
    simpa using hj
  · intro u hu
    obtain rfl : u = .string p := by simpa using hu
    rfl
  · intro g' cap' w' hown hgrow hat hlt
    have hg' : v.ownBlock = some g' ∨ g' = w.heap.size := hat
    refine h _ w' ?_ ⟨hgrow, hgrow.size, g', cap', _, rfl, hg', ?_, hlt⟩
    · unfold OwnS
      rw [List.map_append, List.length_append]; exact hown
    · rcases hg' with e | e
      · exact (OwnS.base hm g' e).1
      · omega
/-- Texts in their order. -/
def srtS (S : List ByteArray) : List ByteArray := ((S.map (·.data.toList)).mergeSort fun x y => decide (x ≤ y)).map fun l => ⟨l.toArray⟩
theorem srtS_perm (S : List ByteArray) : (srtS S).Perm S := by
  have h := (List.mergeSort_perm (S.map (·.data.toList)) fun x y => decide (x ≤ y)).map fun l => (⟨l.toArray⟩ : ByteArray)
  rw [List.map_map] at h
  have e : S.map ((fun l => (⟨l.toArray⟩ : ByteArray)) ∘ fun x => x.data.toList) = S := by
    conv => rhs; rw [← List.map_id S]
    apply List.map_congr_left
    intro x _
    simp
  rw [e] at h
  exact h
theorem srtS_len (S : List ByteArray) : (srtS S).length = S.length := (srtS_perm S).length_eq
open Go.Sort Go.Lib in
theorem oth_sort {w : World} {g q : Nat} {d : Array (List UInt8)} {os : Array Obj} : Oth g w (grow (putRow encStr (Sort.ahead w q) g 0 d) os) :=
  ⟨rfl, rfl, rfl, by simp [grow, putRow, mapBlock, Sort.ahead], fun k hk hne => by
    rw [heap_grow_old _ _ (by simpa [putRow, mapBlock, Sort.ahead] using hk)]
    simp [putRow, mapBlock, Sort.ahead, Array.getElem?_modify, show g ≠ k from fun e => hne e.symm]⟩
open Go.Sort Go.Lib in
theorem owns_growS {w : World} {base s n : Nat} {e : TypeId} {v : Value} {xs : List Value} {os : Array Obj} (h : w.ownsRow base e s v n xs) : (grow w os).ownsRow base e s v n xs := by
  refine ⟨h.1, ?_⟩
  rcases h.2 with h0 | ⟨g, cap, cur, e1, e2, e3, e4⟩
  · exact .inl h0
  · exact .inr ⟨g, cap, cur, e1, e2, by rw [heap_grow_old _ _ (Array.getElem?_eq_some_iff.1 e3).1]; exact e3, e4⟩
open Go.Sort Go.Lib in
theorem sort_reels {W : World} {B g n cap : Nat} {S : List ByteArray} (h : OwnS B W (.slice (some ⟨g, 0, none⟩) n cap) S) (hn : n < 4611686018427387904) :
    Calls Tryz.prog 36 #[.slice (some ⟨g, 0, none⟩) n cap] W fun e w' => e = .returned (.tuple #[]) ∧ OwnS B w' (.slice (some ⟨g, 0, none⟩) n cap) (srtS S) ∧ Oth g W w' := by
  unfold OwnS at h
  rw [← map_encStr] at h
  obtain ⟨g', cap', e1, hg, hlt, hnc, hcm, hl, hH⟩ := holds_of_ownsRow h (by intro e; cases e)
  injection e1 with e1 e2 e3
  injection e1 with e1
  injection e1 with e1
  subst e1; subst e3
  have hl2 : S.length = n := e2.symm
  have hc := Tryz.slices_Sort_string g 0 cap (S.map (·.data.toList)) W hH hlt (by rw [List.length_map, hl2]; exact hn)
  rw [List.length_map, hl2] at hc
  refine hc.mono ?_
  rintro e w' ⟨rfl, q, os, rfl⟩
  have hlen : ((S.map (·.data.toList)).mergeSort fun x y => decide (x ≤ y)).length = n := by rw [List.length_mergeSort, List.length_map, hl2]
  refine ⟨rfl, ?_, oth_sort⟩
  rw [hl2] at h
  have h3 := owns_growS (os := os) (ownsRow_putRow (q := q) h hlen (Nat.le_refl _))
  rw [← hlen, List.take_length, hlen] at h3
  unfold OwnS
  rw [srtS_len, hl2]
  have e : (srtS S).map Value.string = ((S.map (·.data.toList)).mergeSort fun x y => decide (x ≤ y)).map encStr := by
    unfold srtS
    rw [List.map_map]
    rfl
  rw [e]
  exact h3
theorem srtS_eq {S T : List ByteArray} (h : S.Perm T) : srtS S = srtS T := by
  unfold srtS
  rw [mergeSort_of_perm (h.map _)]
theorem srtS_le (S : List ByteArray) : (srtS S).Pairwise fun a b => a.data.toList ≤ b.data.toList := by
  have hp : ((S.map (·.data.toList)).mergeSort fun x y => decide (x ≤ y)).Pairwise fun a b => decide (a ≤ b) = true := by
    apply List.pairwise_mergeSort
    · intro a b c h1 h2
      simp only [decide_eq_true_eq] at *
      exact List.le_trans h1 h2
    · intro a b
      simp only [Bool.or_eq_true, decide_eq_true_eq]
      exact List.le_total a b
  unfold srtS
  rw [List.pairwise_map]
  refine hp.imp ?_
  intro a b h
  simpa using of_decide_eq_true h
theorem srtS_uniq {S T : List ByteArray} (h : S.Perm T) (hs : S.Pairwise fun a b => a.data.toList ≤ b.data.toList) : S = srtS T :=
  List.Perm.eq_of_pairwise (le := fun a b => a.data.toList ≤ b.data.toList) (fun a b _ _ h1 h2 => bytes_inj.1 (List.le_antisymm h1 h2)) hs (srtS_le T) (h.trans (srtS_perm T).symm)
end Go.Proofs.YtilninaminaadaaGreatDoor
