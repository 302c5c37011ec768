/- Reels in their order; what a call has gathered, reel by reel. -/
import Derived.Test.YteebkfdocdmboaaDoorEmD
import Derived.Test.YteebkfdocdmboaaDoorShelf
import Derived.Lib.OwnBridge
namespace Go.Proofs.YteebkfdocdmboaaDoor
open Go.RowKit

theorem cb_cons (a b : UInt8) (l m : List UInt8) : Lib.compareBytes (a :: l) (b :: m) = if a < b then -1 else if b < a then 1 else Lib.compareBytes l m := rfl
theorem cb_lt : ∀ (x y : List UInt8), x < y ↔ Lib.compareBytes x y < 0
  | [], [] => by simp [Lib.compareBytes]
  | [], _ :: _ => by simp [Lib.compareBytes]
  | _ :: _, [] => by simp [Lib.compareBytes]
  | a :: l, b :: m => by
    rw [List.cons_lt_cons_iff, cb_lt l m, cb_cons]
    by_cases h1 : a < b
    · simp [h1]
    · by_cases h2 : b < a
      · have hne : ¬ a = b := by rintro rfl; exact UInt8.lt_irrefl a h2
        simp [h1, h2, hne]
      · have e : a = b := UInt8.le_antisymm (UInt8.not_lt.1 h2) (UInt8.not_lt.1 h1)
        subst e
        simp [h1]
theorem cb_le (x y : List UInt8) : x ≤ y ↔ Lib.compareBytes x y ≤ 0 := by
  rw [← List.not_lt, cb_lt, cb_anti x y]
  omega
/-- The reels in their order. -/
def srtS (S : List ByteArray) : List ByteArray := ((S.map (·.data.toList)).mergeSort fun x y => decide (x ≤ y)).map fun l => ⟨l.toArray⟩
theorem srtS_perm (S : List ByteArray) : (srtS S).Perm S := by
  have h := (List.mergeSort_perm (S.map (·.data.toList)) fun x y => decide (x ≤ y)).map fun l => (⟨l.toArray⟩ : ByteArray)
  rw [List.map_map] at h
  have e : S.map ((fun l => (⟨l.toArray⟩ : ByteArray)) ∘ fun x => x.data.toList) = S := by
    conv => rhs; rw [← List.map_id S]
    apply List.map_congr_left
    intro x _
    simp
  rw [e] at h
  exact h
theorem srtS_len (S : List ByteArray) : (srtS S).length = S.length := (srtS_perm S).length_eq
theorem srtS_lt {S : List ByteArray} (hn : S.Nodup) : (srtS S).Pairwise fun a b => cbR a b < 0 := by
  have hp : ((S.map (·.data.toList)).mergeSort fun x y => decide (x ≤ y)).Pairwise fun a b => decide (a ≤ b) = true := by
    apply List.pairwise_mergeSort
    · intro a b c h1 h2
      simp only [decide_eq_true_eq] at *
      exact List.le_trans h1 h2
    · intro a b
      simp only [Bool.or_eq_true, decide_eq_true_eq]
      exact List.le_total a b
  have h2 : (srtS S).Pairwise fun a b => cbR a b ≤ 0 := by
    unfold srtS
    rw [List.pairwise_map]
    refine hp.imp ?_
    intro a b h
    have := of_decide_eq_true h
    rw [cb_le] at this
    simpa [cbR] using this
  have hn2 : (srtS S).Nodup := (srtS_perm S).nodup_iff.2 hn
  have := List.Pairwise.and h2 hn2
  refine this.imp ?_
  rintro a b ⟨h, hne⟩
  by_cases h0 : cbR a b = 0
  · exact absurd (cbR_eq h0) hne
  · omega
theorem take_lt {S : List ByteArray} (h : S.Pairwise fun a b => cbR a b < 0) {j : Nat} (hj : j < S.length) : ∀ s ∈ S.take j, cbR s (S.getD j default) < 0 := by
  intro s hs
  obtain ⟨i, hi, rfl⟩ := List.mem_iff_getElem.1 hs
  have hij : i < j := by rw [List.length_take] at hi; omega
  rw [List.getElem_take, show S.getD j default = S[j] by simp [List.getD_eq_getElem?_getD, hj]]
  exact List.pairwise_iff_getElem.1 h i j (by omega) hj hij

theorem mList_reel (L : List Pl) : ∀ q ∈ mList L, ∃ p ∈ L, p.reel = q.reel := by
  induction L using snoc_ind with
  | h0 => intro q hq; cases hq
  | h1 L p ih =>
    intro q hq
    rw [mList_snoc] at hq
    unfold mStep at hq
    split at hq
    · obtain rfl : q = p := by simpa using hq
      exact ⟨q, by simp, rfl⟩
    · rename_i l hl
      split at hq
      · rename_i hc
        rcases List.mem_append.1 hq with hq | hq
        · obtain ⟨p', hp', e⟩ := ih q ((List.dropLast_sublist _).mem hq)
          exact ⟨p', List.mem_append_left _ hp', e⟩
        · have e : q = ⟨l.reel, l.inn, max l.out p.out⟩ := by simpa using hq
          exact ⟨p, by simp, by rw [e]; exact hc.1.symm⟩
      · rcases List.mem_append.1 hq with hq | hq
        · obtain ⟨p', hp', e⟩ := ih q hq
          exact ⟨p', List.mem_append_left _ hp', e⟩
        · obtain rfl : q = p := by simpa using hq
          exact ⟨q, by simp, rfl⟩
theorem mStep_new {D : List Pl} {p : Pl} (h : ∀ q ∈ D, q.reel ≠ p.reel) : mStep (mList D) p = mList D ++ [p] := by
  unfold mStep
  split
  · rename_i h0
    rw [List.getLast?_eq_none_iff] at h0
    rw [h0]; rfl
  · rename_i l hl
    obtain ⟨q, hq, e⟩ := mList_reel D l (List.mem_of_getLast? hl)
    rw [if_neg (fun hc => h q hq (e.trans hc.1))]
theorem mList_end (L : List Pl) (p : Pl) : ∃ O q, mList (L ++ [p]) = O ++ [q] ∧ q.reel = p.reel := by
  rw [mList_snoc]
  obtain ⟨q, hq, e⟩ := mStep_last (mList L) p
  obtain ⟨O, hO⟩ := List.getLast?_eq_some_iff.1 hq
  exact ⟨O, q, hO, e⟩

/-- What stands at a reel: nil, where nothing does. -/
def atE (E : List (ByteArray × Value)) (s : ByteArray) : Value := (findS E s).getD (.slice none 0 0)
theorem findI_put (p : ByteArray) (v : Value) (s : ByteArray) : ∀ (E : List (ByteArray × Value)) (i : Nat), (findI (putS E p v) s i).map (·.2) = if s = p then some v else (findI E s i).map (·.2) := by
  intro E
  induction E with
  | nil =>
    intro i
    have e1 : findI (putS [] p v) s i = if s = p then some (i, v) else none := rfl
    have e2 : findI [] s i = none := rfl
    rw [e1, e2]
    by_cases h : s = p
    · rw [if_pos h, if_pos h]; rfl
    · rw [if_neg h, if_neg h]
  | cons a E ih =>
    intro i
    obtain ⟨q, u⟩ := a
    rw [putS]
    by_cases h : p = q
    · rw [if_pos h, findI, findI]
      subst h
      by_cases h2 : s = p
      · simp [h2]
      · simp [h2]
    · rw [if_neg h, findI, findI]
      by_cases h2 : s = q
      · have : ¬ s = p := fun e => h (e.symm.trans h2)
        rw [if_pos h2, if_pos h2, if_neg this]
      · rw [if_neg h2, if_neg h2]
        exact ih (i + 1)
theorem atE_put (E : List (ByteArray × Value)) (p : ByteArray) (v : Value) (s : ByteArray) : atE (putS E p v) s = if s = p then v else atE E s := by
  unfold atE findS
  rw [findI_put]
  split <;> rfl
def ofR (P : List Pl) (s : ByteArray) : List Pl := P.filter fun (p : Pl) => decide (p.reel = s)
theorem ofR_snoc (P : List Pl) (p : Pl) (s : ByteArray) : ofR (P ++ [p]) s = if s = p.reel then ofR P s ++ [p] else ofR P s := by
  unfold ofR
  rw [List.filter_append]
  by_cases h : s = p.reel
  · rw [if_pos h]; simp [h]
  · rw [if_neg h]
    have : ¬ p.reel = s := fun e => h e.symm
    simp [this]
theorem ofR_len (P : List Pl) (s : ByteArray) : (ofR P s).length ≤ P.length := List.length_filter_le _ _

/-- What the call has gathered: the reels in the order in which they came, and at each its pulls. -/
structure Gr (B r : Nat) (w : World) (E : List (ByteArray × Value)) (P : List Pl) (rv : Value) (S : List ByteArray) : Prop where
  lt : r < B
  map : MapS w r E
  reels : OwnS B w rv S
  nd : S.Nodup
  mem : ∀ p ∈ P, p.reel ∈ S
  row : ∀ s, OwnQ B w (atE E s) (ofR P s)
  sep : ∀ s t, s ≠ t → ∀ g, (atE E s).ownBlock = some g → (atE E t).ownBlock ≠ some g
  sepR : ∀ s g, (atE E s).ownBlock = some g → rv.ownBlock ≠ some g
  isNil : ∀ s, ofR P s = [] → atE E s = .slice none 0 0
theorem Gr.nil {B r : Nat} {w : World} (h : MapS w r []) (hl : r < B) : Gr B r w [] [] (.slice none 0 0) [] :=
  ⟨hl, h, World.ownsRow_nil _ _ _ _, List.nodup_nil, (fun p h => by cases h), (fun s => World.ownsRow_nil _ _ _ _), (fun s t _ g hg => by cases hg), (fun s g hg => by cases hg), (fun s _ => rfl)⟩
theorem Gr.keep {B r : Nat} {w w' : World} {E : List (ByteArray × Value)} {P : List Pl} {rv : Value} {S : List ByteArray} (h : Gr B r w E P rv S) (hb : Below w.heap.size w w') : Gr B r w' E P rv S :=
  ⟨h.lt, h.map.keep hb, h.reels.keep hb, h.nd, h.mem, fun s => (h.row s).keep hb, h.sep, h.sepR, h.isNil⟩
theorem Gr.reel {B r : Nat} {w w' : World} {E : List (ByteArray × Value)} {P : List Pl} {rv v' : Value} {S : List ByteArray} (h : Gr B r w E P rv S) {s : ByteArray} (hs : s ∉ S) (hv : OwnS B w' v' (S ++ [s])) (ap : Apd B w w' rv v') : Gr B r w' E P v' (S ++ [s]) := by
  refine ⟨h.lt, ap.map h.map ?_, hv, ?_, fun p hp => List.mem_append_left _ (h.mem p hp), fun t => ap.own (h.row t) (fun g hg => h.sepR t g hg), h.sep, ?_, h.isNil⟩
  · intro e
    have := (OwnS.base h.reels r e).1
    have := h.lt
    omega
  · rw [List.nodup_append]
    refine ⟨h.nd, by simp, ?_⟩
    intro a ha b hb e
    obtain rfl : b = s := by simpa using hb
    exact hs (e ▸ ha)
  · intro t g hg e
    obtain ⟨g', cap, n, rfl, hat, _, _⟩ := ap.at_
    simp only [Value.ownBlock, Option.some.injEq] at e
    subst e
    have h1 := OwnQ.base (h.row t) _ hg
    rcases hat with hat | hat
    · exact h.sepR t _ hg hat
    · omega
theorem Gr.push {B r : Nat} {w w' : World} {E : List (ByteArray × Value)} {P : List Pl} {rv v' : Value} {S : List ByteArray} (h : Gr B r w E P rv S) {p : Pl} (hs : p.reel ∈ S) (hv : OwnQ B w' v' (ofR P p.reel ++ [p])) (ap : Apd B w w' (atE E p.reel) v') : Gr B r (setMapS w' r (putS E p.reel v')) (putS E p.reel v') (P ++ [p]) rv S := by
  have hst : ∀ g, B ≤ g → (setMapS w' r (putS E p.reel v')).heap[g]? = w'.heap[g]? := fun g hg => (setMapS_only w' r _).block g (by have := h.lt; omega)
  have hlt := h.lt
  have hr : ∀ t, t ≠ p.reel → OwnQ B w' (atE E t) (ofR P t) := fun t ht => ap.own (h.row t) (fun g hg => h.sep t p.reel ht g hg)
  have hvb : ∀ g, v'.ownBlock = some g → ((atE E p.reel).ownBlock = some g ∨ g = w.heap.size) := by
    intro g hg
    obtain ⟨g', cap, n, rfl, hat, _, _⟩ := ap.at_
    simp only [Value.ownBlock, Option.some.injEq] at hg
    subst hg
    exact hat
  refine ⟨hlt, MapS.set (ap.map h.map ?_) _, ?_, h.nd, ?_, fun t => ?_, fun s t hne g hg e => ?_, fun s g hg e => ?_, fun s hs0 => ?_⟩
  · intro e
    have := (OwnQ.base (h.row _) r e).1
    omega
  · have h1 : OwnS B w' rv S := ap.own h.reels (fun g hg e => h.sepR _ g e hg)
    exact own_keepg h1 fun g hg _ => hst g (OwnS.base h1 g hg).1
  · intro q hq
    rcases List.mem_append.1 hq with hq | hq
    · exact h.mem q hq
    · obtain rfl : q = p := by simpa using hq
      exact hs
  · rw [atE_put, ofR_snoc]
    by_cases ht : t = p.reel
    · rw [if_pos ht, if_pos ht, ht]
      exact own_keepg hv fun g hg _ => hst g (OwnQ.base hv g hg).1
    · rw [if_neg ht, if_neg ht]
      exact own_keepg (hr t ht) fun g hg _ => hst g (OwnQ.base (hr t ht) g hg).1
  · rw [atE_put] at hg e
    by_cases h1 : s = p.reel
    · rw [if_pos h1] at hg
      rw [if_neg (fun h2 => hne (h1.trans h2.symm))] at e
      have hb := OwnQ.base (h.row t) g e
      rcases hvb g hg with h3 | h3
      · exact h.sep _ t (fun h2 => hne (h1.trans h2)) g h3 e
      · omega
    · rw [if_neg h1] at hg
      by_cases h2 : t = p.reel
      · rw [if_pos h2] at e
        have hb := OwnQ.base (h.row s) g hg
        rcases hvb g e with h3 | h3
        · exact h.sep s _ h1 g hg h3
        · omega
      · rw [if_neg h2] at e
        exact h.sep s t hne g hg e
  · rw [atE_put] at hg
    by_cases h1 : s = p.reel
    · rw [if_pos h1] at hg
      have hb := OwnS.base h.reels g e
      rcases hvb g hg with h3 | h3
      · exact h.sepR _ g h3 e
      · omega
    · rw [if_neg h1] at hg
      exact h.sepR s g hg e
  · rw [ofR_snoc] at hs0
    rw [atE_put]
    by_cases h1 : s = p.reel
    · rw [if_pos h1] at hs0; simp at hs0
    · rw [if_neg h1] at hs0 ⊢; exact h.isNil s hs0
/-- Every reel that is kept has pulls. -/
theorem full_old {P : List Pl} {S : List ByteArray} {p : Pl} (h : ∀ s ∈ S, ofR P s ≠ []) : ∀ s ∈ S, ofR (P ++ [p]) s ≠ [] := by
  intro s hs e
  rw [ofR_snoc] at e
  split at e
  · simp at e
  · exact h s hs e
theorem full_new {P : List Pl} {S : List ByteArray} {p : Pl} (h : ∀ s ∈ S, ofR P s ≠ []) : ∀ s ∈ S ++ [p.reel], ofR (P ++ [p]) s ≠ [] := by
  intro s hs
  rcases List.mem_append.1 hs with hs | hs
  · exact full_old h s hs
  · obtain rfl : s = p.reel := by simpa using hs
    rw [ofR_snoc, if_pos rfl]
    simp
theorem not_mem_of_none {P : List Pl} {S : List ByteArray} {s : ByteArray} (h : ∀ s ∈ S, ofR P s ≠ []) (h0 : ofR P s = []) : s ∉ S := fun hs => h s hs h0
theorem mem_of_some {P : List Pl} {S : List ByteArray} {s : ByteArray} (h : ∀ p ∈ P, p.reel ∈ S) (h0 : ofR P s ≠ []) : s ∈ S := by
  obtain ⟨q, hq⟩ := List.exists_mem_of_ne_nil _ h0
  obtain ⟨h1, h2⟩ := List.mem_filter.1 hq
  have e : q.reel = s := by simpa using h2
  rw [← e]; exact h q h1

open Go.Sort Go.Lib in
theorem oth_sort {w : World} {g q : Nat} {d : Array (List UInt8)} {os : Array Obj} : Oth g w (grow (putRow encStr (Sort.ahead w q) g 0 d) os) :=
  ⟨rfl, rfl, rfl, by simp [grow, putRow, mapBlock, Sort.ahead], fun k hk hne => by
    rw [heap_grow_old _ _ (by simpa [putRow, mapBlock, Sort.ahead] using hk)]
    simp [putRow, mapBlock, Sort.ahead, Array.getElem?_modify, show g ≠ k from fun e => hne e.symm]⟩
open Go.Sort Go.Lib in
theorem owns_growS {w : World} {base s n : Nat} {e : TypeId} {v : Value} {xs : List Value} {os : Array Obj} (h : w.ownsRow base e s v n xs) : (grow w os).ownsRow base e s v n xs := by
  refine ⟨h.1, ?_⟩
  rcases h.2 with h0 | ⟨g, cap, cur, e1, e2, e3, e4⟩
  · exact .inl h0
  · exact .inr ⟨g, cap, cur, e1, e2, by rw [heap_grow_old _ _ (Array.getElem?_eq_some_iff.1 e3).1]; exact e3, e4⟩
open Go.Sort Go.Lib in
theorem sort_reels {W : World} {B g n cap : Nat} {S : List ByteArray} (h : OwnS B W (.slice (some ⟨g, 0, none⟩) n cap) S) (hn : n < 4611686018427387904) :
    Calls Tryd.prog 20 #[.slice (some ⟨g, 0, none⟩) n cap] W fun e w' => e = .returned (.tuple #[]) ∧ OwnS B w' (.slice (some ⟨g, 0, none⟩) n cap) (srtS S) ∧ Oth g W w' := by
  unfold OwnS at h
  rw [← map_encStr] at h
  obtain ⟨g', cap', e1, hg, hlt, hnc, hcm, hl, hH⟩ := holds_of_ownsRow h (by intro e; cases e)
  injection e1 with e1 e2 e3
  injection e1 with e1
  injection e1 with e1
  subst e1; subst e3
  have hl2 : S.length = n := e2.symm
  have hc := Tryd.slices_Sort_string g 0 cap (S.map (·.data.toList)) W hH hlt (by rw [List.length_map, hl2]; exact hn)
  rw [List.length_map, hl2] at hc
  refine hc.mono ?_
  rintro e w' ⟨rfl, q, os, rfl⟩
  have hlen : ((S.map (·.data.toList)).mergeSort fun x y => decide (x ≤ y)).length = n := by rw [List.length_mergeSort, List.length_map, hl2]
  refine ⟨rfl, ?_, oth_sort⟩
  rw [hl2] at h
  have h3 := owns_growS (os := os) (ownsRow_putRow (q := q) h hlen (Nat.le_refl _))
  rw [← hlen, List.take_length, hlen] at h3
  unfold OwnS
  rw [srtS_len, hl2]
  have e : (srtS S).map Value.string = ((S.map (·.data.toList)).mergeSort fun x y => decide (x ≤ y)).map encStr := by
    unfold srtS
    rw [List.map_map]
    rfl
  rw [e]
  exact h3
end Go.Proofs.YteebkfdocdmboaaDoor
