/- Plain: what a right grade is; grades mixed at both ends. -/
import Derived.Test.YtpmbmpfkoffioaaGreatDoorGnP
namespace Go.Proofs.YtpmbmpfkoffioaaGreatDoor

section
open Go.RowKit Go.Lib

/-! ### What is meant -/
def lerpL (t : Nat) (xs ys : List Nat) : List Nat := List.zipWith (fun a b => lerpV a b t) xs ys
def mixCv (t : Nat) (c d : Cv) : Cv := ⟨c.kind, lerpL t c.xs d.xs, lerpL t c.ys d.ys⟩
def mixG (a b : Gd) (t : Nat) : Gd :=
  { kind := a.kind, whe := lerpL t a.whe b.whe, lst := lerpL t a.lst b.lst, cvs := List.zipWith (mixCv t) a.cvs b.cvs, mix := lerpL t a.mix b.mix, piv := lerpV a.piv b.piv t, amt := lerpV a.amt b.amt t, pts := List.zipWith (fun n m => ptMix n m t) a.pts b.pts }
/-- The curve i of a grade. -/
def cvAt (g : Gd) (i : Nat) : Cv := g.cvs.getD i ⟨0, [], []⟩
def confB (a b : Gd) : Bool := !(a.kind == b.kind) || (List.range 4).any fun i => !((cvAt a i).kind == (cvAt b i).kind) || !((cvAt a i).xs.length == (cvAt b i).xs.length)
def outT (t : Nat) : Bool := (FloatKind.f32.format.order t 0 == some .lt) || (FloatKind.f32.format.order t 1065353216 == some .gt)
def betErr (a b : Gd) (t : Nat) : Int :=
  if gradeErr a ≠ 0 then gradeErr a else if gradeErr b ≠ 0 then gradeErr b else if confB a b then 12 else if isNum t = false then 2 else if outT t then 3 else gradeErr (mixG a b t)

/-! ### Cells changed one by one -/
structure Sc (pa : List Addr) (F : Nat → Value) (k : Nat) (a b : World) : Prop where
  os : b.os = a.os
  tape : b.tape = a.tape
  output : b.output = a.output
  size : a.heap.size ≤ b.heap.size
  oth : ∀ ad : Addr, ad.block < a.heap.size → ad ∉ pa → b.cell? ad = a.cell? ad
  fz : ∀ ad : Addr, ad.block < a.heap.size → b.frozen? ad = a.frozen? ad
  blk : ∀ q, q < a.heap.size → (∀ ad ∈ pa, ad.block ≠ q) → b.heap[q]? = a.heap[q]?
  shp : ∀ (q : Nat) (cs : Array Value) (T : TypeId), Bx a q T cs → ∃ cs', Bx b q T cs' ∧ cs'.size = cs.size
  lo : ∀ i, i < k → ∀ ad, pa[i]? = some ad → b.cell? ad = some (F i)
  hi : ∀ i, k ≤ i → ∀ ad, pa[i]? = some ad → b.cell? ad = a.cell? ad
theorem Sc.start (pa : List Addr) (F : Nat → Value) (a : World) : Sc pa F 0 a a :=
  ⟨rfl, rfl, rfl, Nat.le_refl _, fun _ _ _ => rfl, fun _ _ => rfl, fun _ _ _ => rfl, fun _ cs _ h => ⟨cs, h, rfl⟩, fun i h => (by omega), fun _ _ _ _ => rfl⟩
theorem Sc.call {pa : List Addr} {F : Nat → Value} {k : Nat} {a b c : World} (h : Sc pa F k a b) (hb : Below b.heap.size b c) (hs : ∀ ad ∈ pa, ad.block < a.heap.size) : Sc pa F k a c := by
  have hc : ∀ ad : Addr, ad.block < a.heap.size → c.cell? ad = b.cell? ad := fun ad h1 => hb.cell (p := ad) (Nat.lt_of_lt_of_le h1 h.size)
  refine ⟨hb.os.trans h.os, hb.tape.trans h.tape, hb.output.trans h.output, Nat.le_trans h.size hb.size, fun ad h1 h2 => (hc ad h1).trans (h.oth ad h1 h2), fun ad h1 => (hb.frozen (p := ad) (Nat.lt_of_lt_of_le h1 h.size)).trans (h.fz ad h1), fun q h1 h2 => (hb.block q (Nat.lt_of_lt_of_le h1 h.size)).trans (h.blk q h1 h2), fun q cs T hx => ?_, fun i hi ad ha => ?_, fun i hi ad ha => ?_⟩
  · obtain ⟨cs', h1, h2⟩ := h.shp q cs T hx
    exact ⟨cs', h1.keep hb, h2⟩
  · rw [hc ad (hs ad (List.mem_of_getElem? ha))]; exact h.lo i hi ad ha
  · rw [hc ad (hs ad (List.mem_of_getElem? ha))]; exact h.hi i hi ad ha
theorem nodup_ne {pa : List Addr} (nd : pa.Nodup) {i k : Nat} {x y : Addr} (hx : pa[i]? = some x) (hy : pa[k]? = some y) (h : i ≠ k) : x ≠ y := by
  rintro rfl
  obtain ⟨h1, e1⟩ := List.getElem?_eq_some_iff.1 hx
  obtain ⟨h2, e2⟩ := List.getElem?_eq_some_iff.1 hy
  exact h ((List.getElem_inj nd).1 (e1.trans e2.symm))
theorem Sc.step {pa : List Addr} {F : Nat → Value} {k : Nat} {a b : World} (h : Sc pa F k a b) (nd : pa.Nodup) (hs : ∀ ad ∈ pa, ad.block < a.heap.size) {bq o : Nat} (hk : pa[k]? = some ⟨bq, o, none⟩) {u : Value} (hu : b.cell? ⟨bq, o, none⟩ = some u) :
    Sc pa F (k + 1) a (b.setCell ⟨bq, o, none⟩ (F k)) := by
  have hsz : (b.setCell ⟨bq, o, none⟩ (F k)).heap.size = b.heap.size := by simp [World.setCell]
  refine ⟨h.os, h.tape, h.output, by rw [hsz]; exact h.size, fun ad h1 h2 => ?_, fun ad h1 => ?_, fun q h1 h2 => ?_, fun q cs T hx => ?_, fun i hi ad ha => ?_, fun i hi ad ha => ?_⟩
  · rw [World.cell?_setCell_other _ _ _ _ (fun e => h2 (by rw [← e]; exact List.mem_of_getElem? hk))]
    exact h.oth ad h1 h2
  · rw [World.frozen?_setCell]; exact h.fz ad h1
  · rw [Below.heap_setCell _ _ _ _ (Ne.symm (h2 _ (List.mem_of_getElem? hk)))]
    exact h.blk q h1 h2
  · obtain ⟨cs', h1, h2⟩ := h.shp q cs T hx
    by_cases hq : q = bq
    · subst hq
      exact ⟨_, h1.set o (F k), by simp [h2]⟩
    · exact ⟨cs', h1.other _ _ hq, h2⟩
  · by_cases hik : i = k
    · subst hik
      obtain rfl := Option.some.inj (hk.symm.trans ha)
      exact World.cell?_setCell_same _ _ _ hu
    · rw [World.cell?_setCell_other _ _ _ _ (nodup_ne nd hk ha (Ne.symm hik))]
      exact h.lo i (by omega) ad ha
  · rw [World.cell?_setCell_other _ _ _ _ (nodup_ne nd hk ha (by omega))]
    exact h.hi i (by omega) ad ha

/-! ### Singles read through addresses -/
def Rdz (w : World) (pa : List Addr) (xs : List Nat) : Prop := pa.length = xs.length ∧ ∀ (i : Nat) (ad : Addr), pa[i]? = some ad → w.cell? ad = some (.float .f32 (xs.getD i 0))
theorem Rdz.append {w : World} {A B : List Addr} {xs ys : List Nat} (h : Rdz w A xs) (g : Rdz w B ys) : Rdz w (A ++ B) (xs ++ ys) := by
  refine ⟨by rw [List.length_append, List.length_append, h.1, g.1], fun i ad hi => ?_⟩
  by_cases hl : i < A.length
  · rw [List.getElem?_append_left hl] at hi
    rw [List.getD_eq_getElem?_getD, List.getElem?_append_left (by rw [← h.1]; exact hl), ← List.getD_eq_getElem?_getD]
    exact h.2 i ad hi
  · rw [List.getElem?_append_right (by omega)] at hi
    rw [List.getD_eq_getElem?_getD, List.getElem?_append_right (by rw [← h.1]; omega), ← h.1, ← List.getD_eq_getElem?_getD]
    exact g.2 _ ad hi
theorem Rdz.split {w : World} {A B : List Addr} {xs ys : List Nat} (h : Rdz w (A ++ B) (xs ++ ys)) (hl : A.length = xs.length) : Rdz w A xs ∧ Rdz w B ys := by
  refine ⟨⟨hl, fun i ad hi => ?_⟩, ⟨by have := h.1; rw [List.length_append, List.length_append] at this; omega, fun i ad hi => ?_⟩⟩
  · have hlt := (List.getElem?_eq_some_iff.1 hi).1
    have := h.2 i ad (by rw [List.getElem?_append_left hlt]; exact hi)
    rw [List.getD_eq_getElem?_getD, List.getElem?_append_left (by omega), ← List.getD_eq_getElem?_getD] at this
    exact this
  · have := h.2 (A.length + i) ad (by rw [List.getElem?_append_right (by omega), Nat.add_sub_cancel_left]; exact hi)
    rw [List.getD_eq_getElem?_getD, List.getElem?_append_right (by omega), hl, Nat.add_sub_cancel_left, ← List.getD_eq_getElem?_getD] at this
    exact this
theorem Rdz.flat {w : World} {A : Nat → List Addr} {X : Nat → List Nat} : ∀ m, (∀ q, q < m → Rdz w (A q) (X q)) → Rdz w ((List.range m).flatMap A) ((List.range m).flatMap X)
  | 0, _ => ⟨rfl, fun i ad h => by simp at h⟩
  | m + 1, h => by
    rw [List.range_succ, List.flatMap_append, List.flatMap_append]
    refine (Rdz.flat m fun q hq => h q (by omega)).append ?_
    have := h m (by omega)
    simpa using this
theorem flat_len {A : Nat → List Addr} {X : Nat → List Nat} : ∀ m, (∀ q, q < m → (A q).length = (X q).length) → ((List.range m).flatMap A).length = ((List.range m).flatMap X).length
  | 0, _ => rfl
  | m + 1, h => by
    rw [List.range_succ, List.flatMap_append, List.flatMap_append, List.length_append, List.length_append, flat_len m fun q hq => h q (by omega)]
    have := h m (by omega)
    simpa using this
theorem Rdz.unflat {w : World} {A : Nat → List Addr} {X : Nat → List Nat} : ∀ m, (∀ q, q < m → (A q).length = (X q).length) → Rdz w ((List.range m).flatMap A) ((List.range m).flatMap X) → ∀ q, q < m → Rdz w (A q) (X q)
  | 0, _, _, q, hq => by omega
  | m + 1, hl, h, q, hq => by
    rw [List.range_succ, List.flatMap_append, List.flatMap_append] at h
    obtain ⟨h1, h2⟩ := h.split (flat_len m fun q hq => hl q (by omega))
    by_cases hqm : q = m
    · subst hqm
      simpa using h2
    · exact Rdz.unflat m (fun q hq => hl q (by omega)) h1 q (by omega)
theorem cellsP_get {b o n i : Nat} (h : i < n) : (cellsP b o n)[i]? = some ⟨b, o + i, none⟩ := by
  unfold cellsP
  rw [List.getElem?_map, List.getElem?_range h]; rfl
theorem cellsP_mem {b o n : Nat} {ad : Addr} : ad ∈ cellsP b o n ↔ ∃ i, i < n ∧ ad = ⟨b, o + i, none⟩ := by
  unfold cellsP
  rw [List.mem_map]
  constructor
  · rintro ⟨i, hi, rfl⟩; exact ⟨i, List.mem_range.1 hi, rfl⟩
  · rintro ⟨i, hi, rfl⟩; exact ⟨i, List.mem_range.2 hi, rfl⟩
theorem Rdz.cells {w : World} {b o n : Nat} {xs : List Nat} (hl : xs.length = n) (h : ∀ i, i < n → w.cell? ⟨b, o + i, none⟩ = some (.float .f32 (xs.getD i 0))) : Rdz w (cellsP b o n) xs := by
  refine ⟨by rw [cellsP_len, hl], fun i ad hi => ?_⟩
  have hlt := (List.getElem?_eq_some_iff.1 hi).1
  rw [cellsP_len] at hlt
  rw [cellsP_get hlt] at hi
  obtain rfl := Option.some.inj hi
  exact h i hlt
theorem Rdz.cell {w : World} {b o n : Nat} {xs : List Nat} (h : Rdz w (cellsP b o n) xs) {i : Nat} (hi : i < n) : w.cell? ⟨b, o + i, none⟩ = some (.float .f32 (xs.getD i 0)) := h.2 i _ (cellsP_get hi)
theorem cellsP_nodup (b o n : Nat) : (cellsP b o n).Nodup := by
  unfold cellsP
  refine List.Pairwise.map _ (fun i j (hij : i ≠ j) e => ?_) List.nodup_range
  injection e with _ e2 _
  exact hij (by omega)

/-! ### The addresses of a cloned grade -/
theorem pre7_eq (p : Nat) : pre7 p 7 = cellsP p 1 9 ++ cellsP p 10 9 ++ cellsP p 32 12 := rfl
def valsG (g : Gd) : List Nat := g.whe ++ g.lst.take 9 ++ g.mix ++ (List.range 8).flatMap (cvV g) ++ [g.lst.getD 9 0, g.piv, g.amt]
/-- The block of slice q. -/
def bkq (C : Array Value) (q : Nat) : Nat := ((C[cvC q]?.getD undef).ownBlock).getD 0
theorem own_form {B : Nat} {w : World} {v : Value} {xs : List Nat} (h : OwF B w v xs) (hx : xs ≠ []) : ∃ b c, v = .slice (some ⟨b, 0, none⟩) xs.length c ∧ v.ownBlock = some b := by
  rcases h.2 with ⟨_, h1⟩ | ⟨g, cap, cur, e1, _⟩
  · exact absurd (List.length_eq_zero_iff.1 h1) hx
  · exact ⟨g, cap, e1, by rw [e1]; rfl⟩
theorem CS.ptrs {B : Nat} {g : Gd} {C : Array Value} {w : World} (h : CS B g 8 C w) (p : Nat) : ptrsG p C g = (cellsP p 1 9 ++ cellsP p 10 9 ++ cellsP p 32 12) ++ (List.range 8).flatMap (fun q => cellsP (bkq C q) 0 (cvV g q).length) ++ [⟨p, 19, none⟩, ⟨p, 44, none⟩, ⟨p, 45, none⟩] := by
  unfold ptrsG
  rw [pre7_eq]
  congr 2
  unfold crv
  have key : ∀ q, q < 8 → ptrsV (C[cvC q]?.getD undef) (cvV g q).length = cellsP (bkq C q) 0 (cvV g q).length := fun q hq => by
    obtain ⟨v, e1, e2⟩ := h.row q hq
    unfold ptrsV
    split
    · rename_i h0; rw [h0]; rfl
    · rename_i h0
      obtain ⟨b, c, e3, e4⟩ := own_form e2 (fun e => h0 (by rw [e]; rfl))
      unfold bkq
      rw [e1, Option.getD_some, e4, e3]
      rfl
  rw [show (List.range 8) = [0, 1, 2, 3, 4, 5, 6, 7] from rfl]
  simp only [List.flatMap_cons, List.flatMap_nil, key 0 (by omega), key 1 (by omega), key 2 (by omega), key 3 (by omega), key 4 (by omega), key 5 (by omega), key 6 (by omega), key 7 (by omega)]
theorem CS.bk {B : Nat} {g : Gd} {C : Array Value} {w : World} (h : CS B g 8 C w) {q : Nat} (hq : q < 8) (hn : cvV g q ≠ []) : B ≤ bkq C q ∧ bkq C q < w.heap.size ∧ (∃ cur, Bx w (bkq C q) 22 cur) ∧ ∀ i, i < (cvV g q).length → w.cell? ⟨bkq C q, 0 + i, none⟩ = some (.float .f32 ((cvV g q).getD i 0)) := by
  obtain ⟨v, e1, e2⟩ := h.row q hq
  obtain ⟨b, c, e3, e4⟩ := own_form e2 hn
  have hb : bkq C q = b := by unfold bkq; rw [e1, Option.getD_some, e4]; rfl
  rw [hb]
  obtain ⟨o1, o2, o3⟩ := e2.own e4
  refine ⟨o1, o2, o3, fun i hi => ?_⟩
  rcases e2.sl with ⟨b', o', c', h1, _, h3⟩ | ⟨h0, _⟩
  · rw [e3] at h1
    injection h1 with h1 _ _
    injection h1 with h1
    injection h1 with h1 h2 _
    subst h1; subst h2
    exact h3.2 i hi
  · exact absurd h0 hn
theorem CS.bk_ne {B : Nat} {g : Gd} {C : Array Value} {w : World} (h : CS B g 8 C w) {q q' : Nat} (hq : q < 8) (hq' : q' < 8) (hne : q ≠ q') (hn : cvV g q ≠ []) (hn' : cvV g q' ≠ []) : bkq C q ≠ bkq C q' := by
  obtain ⟨v, e1, e2⟩ := h.row q hq
  obtain ⟨b, c, e3, e4⟩ := own_form e2 hn
  obtain ⟨v', f1, f2⟩ := h.row q' hq'
  obtain ⟨b', c', f3, f4⟩ := own_form f2 hn'
  have hb : bkq C q = b := by unfold bkq; rw [e1, Option.getD_some, e4]; rfl
  have hb' : bkq C q' = b' := by unfold bkq; rw [f1, Option.getD_some, f4]; rfl
  rw [hb, hb']
  rintro rfl
  exact h.apart q q' v v' b hq hq' hne e1 f1 e4 f4
theorem mem_ptrs {B : Nat} {g : Gd} {C : Array Value} {w : World} (h : CS B g 8 C w) {p : Nat} {ad : Addr} (hm : ad ∈ ptrsG p C g) :
    ((∃ j, ad = ⟨p, j, none⟩ ∧ ((1 ≤ j ∧ j ≤ 19) ∨ (32 ≤ j ∧ j ≤ 45))) ∨ ∃ q i, q < 8 ∧ i < (cvV g q).length ∧ ad = ⟨bkq C q, 0 + i, none⟩) := by
  rw [h.ptrs p] at hm
  simp only [List.mem_append, List.mem_flatMap, List.mem_range, cellsP_mem, List.mem_cons, List.not_mem_nil, or_false] at hm
  rcases hm with (((⟨i, hi, rfl⟩ | ⟨i, hi, rfl⟩) | ⟨i, hi, rfl⟩) | ⟨q, hq, i, hi, rfl⟩) | rfl | rfl | rfl
  · exact .inl ⟨_, rfl, by omega⟩
  · exact .inl ⟨_, rfl, by omega⟩
  · exact .inl ⟨_, rfl, by omega⟩
  · exact .inr ⟨q, i, hq, hi, rfl⟩
  · exact .inl ⟨19, rfl, by omega⟩
  · exact .inl ⟨44, rfl, by omega⟩
  · exact .inl ⟨45, rfl, by omega⟩
end

section
open Go.RowKit Go.Lib

theorem nodup_flat {A : Nat → List Addr} : ∀ m, (∀ q, q < m → (A q).Nodup) → (∀ q q' x, q < m → q' < m → q ≠ q' → x ∈ A q → x ∉ A q') → ((List.range m).flatMap A).Nodup
  | 0, _, _ => List.nodup_nil
  | m + 1, h1, h2 => by
    rw [List.range_succ, List.flatMap_append, List.nodup_append]
    refine ⟨nodup_flat m (fun q hq => h1 q (by omega)) (fun q q' x hq hq' => h2 q q' x (by omega) (by omega)), by simpa using h1 m (by omega), fun x hx y hy => ?_⟩
    rintro rfl
    simp only [List.mem_flatMap, List.mem_range] at hx
    obtain ⟨q, hq, hx⟩ := hx
    have hy' : x ∈ A m := by simpa using hy
    exact h2 q m x (by omega) (by omega) (by omega) hx hy'
theorem CS.nodup {B : Nat} {g : Gd} {C : Array Value} {w : World} (h : CS B g 8 C w) (p : Nat) (hp : ∀ q, q < 8 → cvV g q ≠ [] → bkq C q ≠ p) : (ptrsG p C g).Nodup := by
  have hc : ∀ q, q < 8 → ∀ x, x ∈ cellsP (bkq C q) 0 (cvV g q).length → cvV g q ≠ [] ∧ x.block = bkq C q := fun q hq x hx => by
    obtain ⟨i, hi, rfl⟩ := cellsP_mem.1 hx
    exact ⟨fun e => by rw [e] at hi; simp at hi, rfl⟩
  have hfl : ((List.range 8).flatMap fun q => cellsP (bkq C q) 0 (cvV g q).length).Nodup := by
    refine nodup_flat 8 (fun q _ => cellsP_nodup _ _ _) (fun q q' x hq hq' hne hx hx' => ?_)
    obtain ⟨n1, b1⟩ := hc q hq x hx
    obtain ⟨n2, b2⟩ := hc q' hq' x hx'
    exact h.bk_ne hq hq' hne n1 n2 (b1.symm.trans b2)
  have hfp : ∀ x, x ∈ ((List.range 8).flatMap fun q => cellsP (bkq C q) 0 (cvV g q).length) → x.block ≠ p := fun x hx => by
    simp only [List.mem_flatMap, List.mem_range] at hx
    obtain ⟨q, hq, hx⟩ := hx
    obtain ⟨n1, b1⟩ := hc q hq x hx
    rw [b1]
    exact hp q hq n1
  have hoff : ∀ (b i j : Nat), (⟨b, i, none⟩ : Addr) = ⟨b, j, none⟩ → i = j := fun b i j e => by injection e
  rw [h.ptrs p]
  refine List.nodup_append.2 ⟨List.nodup_append.2 ⟨List.nodup_append.2 ⟨List.nodup_append.2 ⟨cellsP_nodup _ _ _, cellsP_nodup _ _ _, ?_⟩, cellsP_nodup _ _ _, ?_⟩, hfl, ?_⟩, ?_, ?_⟩
  · intro x hx y hy e
    subst e
    obtain ⟨i, hi, rfl⟩ := cellsP_mem.1 hx
    obtain ⟨j, hj, e⟩ := cellsP_mem.1 hy
    have := hoff _ _ _ e; omega
  · intro x hx y hy e
    subst e
    obtain ⟨j, hj, rfl⟩ := cellsP_mem.1 hy
    rcases List.mem_append.1 hx with hx | hx
    · obtain ⟨i, hi, e⟩ := cellsP_mem.1 hx
      have := hoff _ _ _ e; omega
    · obtain ⟨i, hi, e⟩ := cellsP_mem.1 hx
      have := hoff _ _ _ e; omega
  · intro x hx y hy e
    subst e
    refine hfp x hy ?_
    rcases List.mem_append.1 hx with hx | hx
    · rcases List.mem_append.1 hx with hx | hx
      · obtain ⟨i, hi, rfl⟩ := cellsP_mem.1 hx; rfl
      · obtain ⟨i, hi, rfl⟩ := cellsP_mem.1 hx; rfl
    · obtain ⟨i, hi, rfl⟩ := cellsP_mem.1 hx; rfl
  · simp only [List.nodup_cons, List.mem_cons, List.not_mem_nil, or_false, not_or, not_false_eq_true, List.nodup_nil, and_true]
    refine ⟨⟨fun e => ?_, fun e => ?_⟩, fun e => ?_⟩ <;> (have := hoff _ _ _ e; omega)
  · intro x hx y hy e
    subst e
    have hy' : x = ⟨p, 19, none⟩ ∨ x = ⟨p, 44, none⟩ ∨ x = ⟨p, 45, none⟩ := by simpa using hy
    have hxp : x.block = p := by rcases hy' with rfl | rfl | rfl <;> rfl
    rcases List.mem_append.1 hx with hx | hx
    · rcases List.mem_append.1 hx with hx | hx
      · rcases List.mem_append.1 hx with hx | hx
        · obtain ⟨i, hi, rfl⟩ := cellsP_mem.1 hx
          rcases hy' with e | e | e <;> (have := hoff _ _ _ e; omega)
        · obtain ⟨i, hi, rfl⟩ := cellsP_mem.1 hx
          rcases hy' with e | e | e <;> (have := hoff _ _ _ e; omega)
      · obtain ⟨i, hi, rfl⟩ := cellsP_mem.1 hx
        rcases hy' with e | e | e <;> (have := hoff _ _ _ e; omega)
    · exact hfp x hx hxp
theorem getD_take {xs : List Nat} {n i : Nat} (h : i < n) : (xs.take n).getD i 0 = xs.getD i 0 := by
  rw [List.getD_eq_getElem?_getD, List.getElem?_take, if_pos h, ← List.getD_eq_getElem?_getD]
/-- A cloned grade's singles are read through its addresses. -/
theorem CS.rdz {B : Nat} {g : Gd} {C : Array Value} {w : World} {p : Nat} (h : CS B g 8 C w) (hx : Bx w p 37 C) (hG : GdAt w C g) : Rdz w (ptrsG p C g) (valsG g) := by
  rw [h.ptrs p]
  unfold valsG
  have hc := hx.all.1
  refine ((((Rdz.cells hG.whe.1 fun i hi => ?_).append (Rdz.cells (by rw [List.length_take, hG.lst.1]; rfl) fun i hi => ?_)).append (Rdz.cells hG.mix.1 fun i hi => ?_)).append (Rdz.flat 8 fun q hq => ?_)).append ⟨rfl, fun i ad hi => ?_⟩
  · rw [hc]; exact hG.whe.2 i hi
  · rw [hc, getD_take hi]; exact hG.lst.2 i (by omega)
  · rw [hc]; exact hG.mix.2 i hi
  · by_cases hn : cvV g q = []
    · rw [hn]; exact ⟨rfl, fun i ad hi => by simp [cellsP] at hi⟩
    · exact Rdz.cells rfl (h.bk hq hn).2.2.2
  · have hl := (List.getElem?_eq_some_iff.1 hi).1
    simp only [List.length_cons, List.length_nil] at hl
    rcases (by omega : i = 0 ∨ i = 1 ∨ i = 2) with rfl | rfl | rfl
    · obtain rfl := Option.some.inj hi
      rw [hc]; exact hG.lst.2 9 (by omega)
    · obtain rfl := Option.some.inj hi
      rw [hc]; exact hG.piv
    · obtain rfl := Option.some.inj hi
      rw [hc]; exact hG.amt
theorem zip_len {t : Nat} {xs ys : List Nat} (h : xs.length = ys.length) : (lerpL t xs ys).length = xs.length := by unfold lerpL; rw [List.length_zipWith]; omega
theorem zip_append {t : Nat} {xs ys xs' ys' : List Nat} (h : xs.length = ys.length) : lerpL t (xs ++ xs') (ys ++ ys') = lerpL t xs ys ++ lerpL t xs' ys' := by
  unfold lerpL
  exact List.zipWith_append h
theorem zip_flat {t : Nat} {X Y : Nat → List Nat} : ∀ m, (∀ q, q < m → (X q).length = (Y q).length) → lerpL t ((List.range m).flatMap X) ((List.range m).flatMap Y) = (List.range m).flatMap fun q => lerpL t (X q) (Y q)
  | 0, _ => rfl
  | m + 1, h => by
    rw [List.range_succ, List.flatMap_append, List.flatMap_append, List.flatMap_append, zip_append (by
      have : ∀ m, (∀ q, q < m → (X q).length = (Y q).length) → ((List.range m).flatMap X).length = ((List.range m).flatMap Y).length := by
        intro m
        induction m with
        | zero => intro _; rfl
        | succ m ih =>
          intro h
          rw [List.range_succ, List.flatMap_append, List.flatMap_append, List.length_append, List.length_append, ih fun q hq => h q (by omega)]
          have := h m (by omega)
          simpa using this
      exact this m fun q hq => h q (by omega)), zip_flat m fun q hq => h q (by omega)]
    simp
/-- Grades of the same make. -/
structure Alike (a b : Gd) : Prop where
  whe : a.whe.length = 9 ∧ b.whe.length = 9
  lst : a.lst.length = 10 ∧ b.lst.length = 10
  mix : a.mix.length = 12 ∧ b.mix.length = 12
  pts : a.pts.length = 3 ∧ b.pts.length = 3
  cvs : a.cvs.length = 4 ∧ b.cvs.length = 4
  len : ∀ q, q < 8 → (cvV a q).length = (cvV b q).length
theorem mix_cv {a b : Gd} (h : Alike a b) (t : Nat) {q : Nat} (hq : q < 8) : cvV (mixG a b t) q = lerpL t (cvV a q) (cvV b q) := by
  have hj : q / 2 < 4 := by omega
  have h1 : (mixG a b t).cvs.getD (q / 2) ⟨0, [], []⟩ = mixCv t (a.cvs.getD (q / 2) ⟨0, [], []⟩) (b.cvs.getD (q / 2) ⟨0, [], []⟩) := by
    show (List.zipWith (mixCv t) a.cvs b.cvs).getD (q / 2) ⟨0, [], []⟩ = _
    rw [List.getD_eq_getElem?_getD, List.getElem?_zipWith, List.getD_eq_getElem?_getD, List.getD_eq_getElem?_getD, List.getElem?_eq_getElem (by rw [h.cvs.1]; exact hj), List.getElem?_eq_getElem (by rw [h.cvs.2]; exact hj)]
    rfl
  unfold cvV
  rw [h1]
  split <;> rfl
theorem vals_mix {a b : Gd} (h : Alike a b) (t : Nat) : lerpL t (valsG a) (valsG b) = valsG (mixG a b t) := by
  obtain ⟨w1, w2⟩ := h.whe
  obtain ⟨l1, l2⟩ := h.lst
  obtain ⟨m1, m2⟩ := h.mix
  have hf : ((List.range 8).flatMap (cvV a)).length = ((List.range 8).flatMap (cvV b)).length := by
    rw [show (List.range 8) = [0, 1, 2, 3, 4, 5, 6, 7] from rfl]
    simp only [List.flatMap_cons, List.flatMap_nil, List.length_append, h.len 0 (by omega), h.len 1 (by omega), h.len 2 (by omega), h.len 3 (by omega), h.len 4 (by omega), h.len 5 (by omega), h.len 6 (by omega), h.len 7 (by omega)]
  have hl9 : lerpV (a.lst.getD 9 0) (b.lst.getD 9 0) t = (lerpL t a.lst b.lst).getD 9 0 := by
    unfold lerpL
    rw [List.getD_eq_getElem?_getD, List.getD_eq_getElem?_getD, List.getD_eq_getElem?_getD, List.getElem?_zipWith, List.getElem?_eq_getElem (by omega), List.getElem?_eq_getElem (by omega)]
    rfl
  have ht9 : lerpL t (a.lst.take 9) (b.lst.take 9) = (lerpL t a.lst b.lst).take 9 := by unfold lerpL; rw [List.take_zipWith]
  have hfl : lerpL t ((List.range 8).flatMap (cvV a)) ((List.range 8).flatMap (cvV b)) = (List.range 8).flatMap (cvV (mixG a b t)) := by
    rw [zip_flat 8 h.len]
    rw [show (List.range 8) = [0, 1, 2, 3, 4, 5, 6, 7] from rfl]
    simp only [List.flatMap_cons, List.flatMap_nil, mix_cv h t (show 0 < 8 by omega), mix_cv h t (show 1 < 8 by omega), mix_cv h t (show 2 < 8 by omega), mix_cv h t (show 3 < 8 by omega), mix_cv h t (show 4 < 8 by omega), mix_cv h t (show 5 < 8 by omega), mix_cv h t (show 6 < 8 by omega), mix_cv h t (show 7 < 8 by omega)]
  unfold valsG
  rw [zip_append (by simp only [List.length_append, List.length_take]; omega), zip_append (by simp only [List.length_append, List.length_take]; omega), zip_append (by simp only [List.length_append, List.length_take]; omega), zip_append (by omega), ht9, hfl]
  show _ ++ [lerpV (a.lst.getD 9 0) (b.lst.getD 9 0) t, lerpV a.piv b.piv t, lerpV a.amt b.amt t] = _
  rw [hl9]
  rfl
end

section
open Go.RowKit Go.Lib

theorem Rdz.mem {w : World} {A : List Addr} {xs : List Nat} (h : Rdz w A xs) {ad : Addr} (hm : ad ∈ A) : ∃ x, w.cell? ad = some (.float .f32 x) := by
  obtain ⟨i, hi, rfl⟩ := List.getElem_of_mem hm
  exact ⟨_, h.2 i _ (List.getElem?_eq_getElem hi)⟩
theorem not_mem_ptrs {B : Nat} {g : Gd} {C : Array Value} {w : World} (h : CS B g 8 C w) {p : Nat} (hp : ∀ q, q < 8 → cvV g q ≠ [] → bkq C q ≠ p) {j : Nat} (hj : j = 0 ∨ (20 ≤ j ∧ j ≤ 31) ∨ 46 ≤ j) : (⟨p, j, none⟩ : Addr) ∉ ptrsG p C g := fun hm => by
  rcases mem_ptrs h hm with ⟨j', e, hh⟩ | ⟨q, i, hq, hi, e⟩
  · injection e with _ e _; omega
  · injection e with e _ _
    exact hp q hq (fun e0 => by rw [e0] at hi; simp at hi) e.symm
theorem unread {B : Nat} {a g' : Gd} {C : Array Value} {w0 w1 : World} {p : Nat} {F : Nat → Value} (hC : CS B a 8 C w0) (hx : Bx w0 p 37 C) (hG : GdAt w0 C a)
    (hs : Sc (ptrsG p C a) F (ptrsG p C a).length w0 w1) (hF : ∀ i, i < (ptrsG p C a).length → F i = .float .f32 ((valsG g').getD i 0))
    (hk : g'.kind = a.kind) (hp : g'.pts = a.pts) (h1 : g'.whe.length = 9) (h2 : g'.lst.length = 10) (h3 : g'.mix.length = 12) (h4 : g'.cvs.length = 4)
    (hck : ∀ (i : Nat) (c' : Cv), g'.cvs[i]? = some c' → ∃ c, a.cvs[i]? = some c ∧ c.kind = c'.kind) (hcl : ∀ q, q < 8 → (cvV g' q).length = (cvV a q).length) :
    ∃ D, Bx w1 p 37 D ∧ GdAt w1 D g' := by
  have hbp : ∀ q, q < 8 → cvV a q ≠ [] → bkq C q ≠ p := fun q hq hn => by
    obtain ⟨_, _, ⟨cur, hc⟩, _⟩ := hC.bk hq hn
    exact hc.ne hx (by decide)
  obtain ⟨D, hD, hDs⟩ := hs.shp p C _ hx
  have hsz : D.size = 49 := hDs.trans hG.size
  have hrl : (ptrsG p C a).length = (valsG g').length := by
    rw [hC.ptrs p]
    unfold valsG
    simp only [List.length_append, cellsP_len, List.length_take, h1, h2, h3, List.length_cons, List.length_nil]
    have : ((List.range 8).flatMap fun q => cellsP (bkq C q) 0 (cvV a q).length).length = ((List.range 8).flatMap (cvV g')).length := flat_len 8 fun q hq => by rw [cellsP_len, hcl q hq]
    omega
  have hR : Rdz w1 (ptrsG p C a) (valsG g') := ⟨hrl, fun i ad hi => by
    have hlt := (List.getElem?_eq_some_iff.1 hi).1
    rw [hs.lo i hlt ad hi, hF i hlt]⟩
  have hun : ∀ j, (j = 0 ∨ (20 ≤ j ∧ j ≤ 31) ∨ 46 ≤ j) → D[j]? = C[j]? := fun j hj => by
    rw [← hD.all.1, ← hx.all.1]
    exact hs.oth _ hx.lt (not_mem_ptrs hC hbp hj)
  have hR' := hR
  rw [hC.ptrs p] at hR'
  unfold valsG at hR'
  have hfl : ((List.range 8).flatMap fun q => cellsP (bkq C q) 0 (cvV a q).length).length = ((List.range 8).flatMap (cvV g')).length := flat_len 8 fun q hq => by rw [cellsP_len, hcl q hq]
  obtain ⟨r1, r5⟩ := hR'.split (by simp only [List.length_append, cellsP_len, List.length_take, h1, h2, h3]; omega)
  obtain ⟨r1, r4⟩ := r1.split (by simp only [List.length_append, cellsP_len, List.length_take, h1, h2, h3]; omega)
  obtain ⟨r1, r3⟩ := r1.split (by simp only [List.length_append, cellsP_len, List.length_take, h1, h2]; omega)
  obtain ⟨r1, r2⟩ := r1.split (by simp only [cellsP_len, h1])
  have r4' := Rdz.unflat 8 (fun q hq => by rw [cellsP_len, hcl q hq]) r4
  have hd : ∀ j, D[j]? = w1.cell? ⟨p, j, none⟩ := fun j => (hD.all.1 j).symm
  refine ⟨D, hD, hsz, ?_, ?_, ⟨h1, fun i hi => ?_⟩, ⟨h2, fun i hi => ?_⟩, ⟨h4, fun i c' hc' => ?_⟩, ⟨h3, fun i hi => ?_⟩, ?_, ?_, ⟨by rw [hp]; exact hG.pts.1, fun i hi => ?_⟩⟩
  · rw [all_of_get]
    intro j v hj
    by_cases hm : (⟨p, j, none⟩ : Addr) ∈ ptrsG p C a
    · obtain ⟨x, hx⟩ := hR.mem hm
      rw [hd, hx] at hj
      obtain rfl := Option.some.inj hj
      simp [Value.oneCell']
    · have := hs.oth _ hx.lt hm
      rw [← hd, hx.all.1] at this
      rw [this] at hj
      exact all_of_get.1 hG.one j v hj
  · rw [hun 0 (by omega), hk]; exact hG.kind
  · rw [hd]; exact r1.cell hi
  · by_cases h9 : i < 9
    · rw [hd, r2.cell h9, getD_take h9]
    · obtain rfl : i = 9 := by omega
      rw [hd]
      exact r5.2 0 _ rfl
  · have hi : i < 4 := by have := (List.getElem?_eq_some_iff.1 hc').1; rw [h4] at this; exact this
    obtain ⟨c, hc, hkc⟩ := hck i c' hc'
    have hv : ∀ q, q < 8 → ∃ v, D[cvC q]? = some v ∧ Sl w1 v (cvV g' q) := fun q hq => by
      obtain ⟨v, e1, e2⟩ := hC.row q hq
      refine ⟨v, by rw [hun _ (by unfold cvC; omega)]; exact e1, ?_⟩
      by_cases hn : cvV a q = []
      · have hn' : cvV g' q = [] := List.length_eq_zero_iff.1 (by rw [hcl q hq, hn]; rfl)
        rw [hn']
        obtain ⟨sa, sc, hsl, _⟩ := e2.sl.dest
        rw [hn] at hsl
        exact .inr ⟨rfl, _, _, hsl⟩
      · obtain ⟨b, cc, e3, e4⟩ := own_form e2 hn
        have hbq : bkq C q = b := by unfold bkq; rw [e1, Option.getD_some, e4]; rfl
        refine .inl ⟨b, 0, cc, by rw [e3, hcl q hq], fun e => hn (List.length_eq_zero_iff.1 (by rw [← hcl q hq, e]; rfl)), ?_, fun k hk => ?_⟩
        · have := (hC.bk hq hn).2.1
          rw [hbq] at this
          exact Nat.lt_of_lt_of_le this hs.size
        · have := (r4' q hq).cell (i := k) (by rw [← hcl q hq]; exact hk)
          rw [hbq] at this
          exact this
    obtain ⟨vx, x1, x2⟩ := hv (2 * i) (by omega)
    obtain ⟨vy, y1, y2⟩ := hv (2 * i + 1) (by omega)
    have hcv := cvV_x hc'
    rw [hcv.1] at x2
    rw [hcv.2] at y2
    refine ⟨?_, ⟨vx, ?_, x2⟩, vy, ?_, y2⟩
    · rw [hun _ (by omega), ← hkc]; exact (hG.cvs.2 i c hc).1
    · rw [← x1]; congr 1; unfold cvC; omega
    · rw [← y1]; congr 1; unfold cvC; omega
  · rw [hd]; exact r3.cell hi
  · rw [hd]; exact r5.2 1 _ rfl
  · rw [hd]; exact r5.2 2 _ rfl
  · rw [hun _ (by omega), hp]; exact hG.pts.2 i hi
end

section
open Go.RowKit Go.Lib

theorem cvsErr_zero {l : List Cv} (h : cvsErr l = 0) : ∀ c ∈ l, hasP c = true → curveErr c = 0 := by
  have key : ∀ (l : List Cv) (e : Int), l.foldl (fun e c => if hasP c = true ∧ e = 0 then curveErr c else e) e = 0 → e = 0 ∧ ∀ c ∈ l, hasP c = true → curveErr c = 0 := by
    intro l
    induction l with
    | nil => intro e h; exact ⟨h, fun c hc => by cases hc⟩
    | cons a l ih =>
      intro e h
      rw [List.foldl_cons] at h
      obtain ⟨h1, h2⟩ := ih _ h
      by_cases hc : hasP a = true ∧ e = 0
      · rw [if_pos hc] at h1
        refine ⟨hc.2, fun c hm hp => ?_⟩
        rcases List.mem_cons.1 hm with rfl | hm
        · exact h1
        · exact h2 c hm hp
      · rw [if_neg hc] at h1
        refine ⟨h1, fun c hm hp => ?_⟩
        rcases List.mem_cons.1 hm with rfl | hm
        · exact absurd ⟨hp, h1⟩ hc
        · exact h2 c hm hp
  exact (key l 0 h).2
theorem nn_zer0 {x : Nat} (h : zer0 x = true) : isNaN x = false := by
  cases hn : isNaN x with
  | false => rfl
  | true =>
    have h1 : rd x = rd x := rfl
    unfold zer0 at h
    rw [show (FloatKind.f32.format.order x 0 == some .eq) = ((rd x).order (rd 0) == some .eq) from rfl] at h
    unfold isNaN at hn
    rw [show (FloatKind.f32.format.order x x != some .eq) = ((rd x).order (rd x) != some .eq) from rfl] at hn
    cases hr : rd x with
    | nan p q => rw [hr] at h; simp [Ieee.Datum.order] at h
    | infinity s => rw [hr] at hn; cases s <;> simp [Ieee.Datum.order] at hn
    | number s m i =>
      rw [hr] at hn
      have : (Ieee.Datum.number s m i).order (Ieee.Datum.number s m i) = some .eq := by
        show some (compare _ _) = some .eq
        rw [Int.compare_eq_eq.2 rfl]
      rw [this] at hn
      cases hn
theorem nn_num {x : Nat} (h : isNum x = true) : isNaN x = false := by
  cases hn : isNaN x with
  | false => rfl
  | true => rw [isNum_nan hn] at h; cases h
theorem canon_nn' {x : Nat} (h : isNaN x = false) : canon x = x := by
  unfold canon
  rw [h]; rfl
theorem curve_ok {c : Cv} (h : curveErr c = 0) : (c.kind = 1 ∨ c.kind = 2) ∧ c.xs.length = c.ys.length ∧ 2 ≤ c.xs.length ∧ c.xs.length ≤ 32 ∧ c.xs.all isNum = true ∧ c.ys.all isNum = true := by
  unfold curveErr at h
  split at h
  · cases h
  · rename_i h1
    split at h
    · cases h
    · rename_i h2
      split at h
      · cases h
      · rename_i h3
        refine ⟨by omega, by omega, by omega, by omega, ?_, ?_⟩
        · cases hx : c.xs.all isNum
          · exact absurd (.inl hx) h3
          · rfl
        · cases hx : c.ys.all isNum
          · exact absurd (.inr hx) h3
          · rfl
/-- What a right grade is. -/
structure Right (g : Gd) : Prop where
  k1 : 1 ≤ g.kind
  k6 : g.kind ≤ 6
  cvs : ∀ c ∈ g.cvs, c.xs.length = c.ys.length ∧ c.xs.length ≤ 32 ∧ (c.xs.length ≠ 0 → c.kind = 1 ∨ c.kind = 2) ∧ (∀ x ∈ c.xs, isNaN x = false) ∧ ∀ y ∈ c.ys, isNaN y = false
  whe : ∀ x ∈ g.whe, isNaN x = false
  lst : ∀ x ∈ g.lst, isNaN x = false
  mix : ∀ x ∈ g.mix, isNaN x = false
  piv : isNaN g.piv = false
  amt : isNaN g.amt = false
  pts : ∀ n ∈ g.pts, 0 ≤ n ∧ n ≤ 50
theorem right_of {g : Gd} (h : gradeErr g = 0) : Right g := by
  unfold gradeErr at h
  have hk : kindErr g = 0 := by
    by_cases hk : kindErr g = 0
    · exact hk
    · rw [if_pos hk] at h; exact h
  rw [if_neg (by rw [hk]; decide)] at h
  have hs : spareB g = true := by
    cases hs : spareB g
    · rw [hs] at h; cases h
    · rfl
  unfold spareB at hs
  simp only [Bool.and_eq_true, Bool.or_eq_true, decide_eq_true_eq, Bool.not_eq_true'] at hs
  obtain ⟨s0, s1, s2, s3, s4, s5⟩ := hs
  have hall : ∀ (xs : List Nat), xs.all zer0 = true → ∀ x ∈ xs, isNaN x = false := fun xs h x hx => nn_zer0 (List.all_eq_true.1 h x hx)
  have hnum : ∀ (xs : List Nat), xs.all isNum = true → ∀ x ∈ xs, isNaN x = false := fun xs h x hx => nn_num (List.all_eq_true.1 h x hx)
  unfold kindErr at hk
  have hkr : 1 ≤ g.kind ∧ g.kind ≤ 6 := by
    repeat (split at hk; · omega)
    cases hk
  refine ⟨hkr.1, hkr.2, fun c hc => ?_, ?_, ?_, ?_, ?_, ?_, ?_⟩
  · have hb := List.any_eq_false.1 s0 c hc
    unfold cvBad at hb
    by_cases hp : hasP c = true
    · by_cases h3 : g.kind = 3
      · rw [if_neg (by omega), if_neg (by omega), if_pos h3] at hk
        obtain ⟨a1, a2, a3, a4, a5, a6⟩ := curve_ok (cvsErr_zero hk c hc hp)
        exact ⟨a2, a4, fun _ => a1, hnum _ a5, hnum _ a6⟩
      · exfalso
        apply hb
        rw [decide_eq_false h3, hp]; simp
    · have hp' : hasP c = false := by simpa using hp
      unfold hasP at hp'
      simp only [Bool.or_eq_false_iff, decide_eq_false_iff_not] at hp'
      have e1 : c.xs = [] := List.length_eq_zero_iff.1 (by omega)
      have e2 : c.ys = [] := List.length_eq_zero_iff.1 (by omega)
      rw [e1, e2]
      exact ⟨rfl, by simp, fun h => absurd rfl h, fun x hx => (by cases hx), fun x hx => by cases hx⟩
  · rcases s1 with h1 | h1
    · rw [if_pos h1] at hk
      unfold whErr at hk
      split at hk
      · cases hk
      · rename_i h2; exact hnum _ (by simpa using h2)
    · exact hall _ h1
  · rcases s2 with h1 | h1
    · rw [if_neg (by omega), if_pos h1] at hk
      unfold lsErr at hk
      split at hk
      · cases hk
      · rename_i h2; exact hnum _ (by simpa using h2)
    · exact hall _ h1
  · rcases s3 with h1 | h1
    · rw [if_neg (by omega), if_neg (by omega), if_neg (by omega), if_pos h1] at hk
      split at hk
      · rename_i h2; exact hnum _ h2
      · cases hk
    · exact hall _ h1
  · rcases s4 with h1 | h1
    · rw [if_neg (by omega), if_neg (by omega), if_neg (by omega), if_neg (by omega), if_pos h1] at hk
      split at hk
      · rename_i h2; simp only [Bool.and_eq_true] at h2; exact nn_num h2.1
      · cases hk
    · exact nn_zer0 h1.1
  · rcases s4 with h1 | h1
    · rw [if_neg (by omega), if_neg (by omega), if_neg (by omega), if_neg (by omega), if_pos h1] at hk
      split at hk
      · rename_i h2; simp only [Bool.and_eq_true] at h2; exact nn_num h2.2
      · cases hk
    · exact nn_zer0 h1.2
  · rcases s5 with h1 | h1
    · rw [if_neg (by omega), if_neg (by omega), if_neg (by omega), if_neg (by omega), if_neg (by omega), if_pos h1] at hk
      unfold ptsErr at hk
      split at hk
      · cases hk
      · rename_i h2
        intro n hn
        have h2 : (g.pts.any ptBad) = false := by simpa using h2
        have := List.any_eq_false.1 h2 n hn
        unfold ptBad at this
        simp at this
        omega
    · intro n hn
      have := List.all_eq_true.1 h1 n hn
      simp at this
      omega
/-! ### Mixed at the ends -/
theorem lerp0 (x y : Nat) (h : isNaN x = false) : lerpV x y 0 = x := by
  unfold lerpV
  rw [if_pos (by decide)]
  exact canon_nn' h
theorem lerp1 (x y : Nat) (h : isNaN y = false) : lerpV x y 1065353216 = y := by
  unfold lerpV
  rw [if_neg (by decide), if_pos (by decide)]
  exact canon_nn' h
theorem lerpL0 : ∀ (xs ys : List Nat), xs.length = ys.length → (∀ x ∈ xs, isNaN x = false) → lerpL 0 xs ys = xs
  | [], _, _, _ => by simp [lerpL]
  | x :: xs, [], h, _ => by simp at h
  | x :: xs, y :: ys, h, hn => by
    have ih := lerpL0 xs ys (by simpa using h) fun z hz => hn z (List.mem_cons_of_mem _ hz)
    unfold lerpL at ih ⊢
    rw [List.zipWith_cons_cons, ih, lerp0 x y (hn x (List.mem_cons_self ..))]
theorem lerpL1 : ∀ (xs ys : List Nat), xs.length = ys.length → (∀ y ∈ ys, isNaN y = false) → lerpL 1065353216 xs ys = ys
  | [], [], _, _ => rfl
  | [], y :: ys, h, _ => by simp at h
  | x :: xs, [], h, _ => by simp at h
  | x :: xs, y :: ys, h, hn => by
    have ih := lerpL1 xs ys (by simpa using h) fun z hz => hn z (List.mem_cons_of_mem _ hz)
    unfold lerpL at ih ⊢
    rw [List.zipWith_cons_cons, ih, lerp1 x y (hn y (List.mem_cons_self ..))]
theorem pt0 {n m : Int} (h : 0 ≤ n ∧ n ≤ 50) : ptMix n m 0 = n := by
  obtain ⟨k, rfl⟩ : ∃ k : Nat, n = (k : Int) := ⟨n.toNat, by omega⟩
  obtain ⟨h1, h2⟩ := near_self k (by omega)
  unfold ptMix lerpV
  rw [if_pos (by decide), h2, h1]
theorem pt1 {n m : Int} (h : 0 ≤ m ∧ m ≤ 50) : ptMix n m 1065353216 = m := by
  obtain ⟨k, rfl⟩ : ∃ k : Nat, m = (k : Int) := ⟨m.toNat, by omega⟩
  obtain ⟨h1, h2⟩ := near_self k (by omega)
  unfold ptMix lerpV
  rw [if_neg (by decide), if_pos (by decide), h2, h1]
theorem zip_self0 {α : Type} (f : α → α → α) : ∀ (xs ys : List α), xs.length = ys.length → (∀ (i : Nat) (x y : α), xs[i]? = some x → ys[i]? = some y → f x y = x) → List.zipWith f xs ys = xs
  | [], _, _, _ => by simp
  | x :: xs, [], h, _ => by simp at h
  | x :: xs, y :: ys, h, hf => by
    rw [List.zipWith_cons_cons, hf 0 x y rfl rfl, zip_self0 f xs ys (by simpa using h) fun i x' y' hx hy => hf (i + 1) x' y' (by simpa using hx) (by simpa using hy)]
theorem zip_self1 {α : Type} (f : α → α → α) : ∀ (xs ys : List α), xs.length = ys.length → (∀ (i : Nat) (x y : α), xs[i]? = some x → ys[i]? = some y → f x y = y) → List.zipWith f xs ys = ys
  | [], [], _, _ => rfl
  | [], y :: ys, h, _ => by simp at h
  | x :: xs, [], h, _ => by simp at h
  | x :: xs, y :: ys, h, hf => by
    rw [List.zipWith_cons_cons, hf 0 x y rfl rfl, zip_self1 f xs ys (by simpa using h) fun i x' y' hx hy => hf (i + 1) x' y' (by simpa using hx) (by simpa using hy)]
theorem conf_cv {a b : Gd} (h : confB a b = false) {i : Nat} {c d : Cv} (hc : a.cvs[i]? = some c) (hd : b.cvs[i]? = some d) (hi : i < 4) : a.kind = b.kind ∧ c.kind = d.kind ∧ c.xs.length = d.xs.length := by
  unfold confB at h
  simp only [Bool.or_eq_false_iff] at h
  obtain ⟨h1, h2⟩ := h
  have h3 := List.any_eq_false.1 h2 i (List.mem_range.2 hi)
  have e1 : cvAt a i = c := by unfold cvAt; rw [List.getD_eq_getElem?_getD, hc]; rfl
  have e2 : cvAt b i = d := by unfold cvAt; rw [List.getD_eq_getElem?_getD, hd]; rfl
  rw [e1, e2] at h3
  simp at h1 h3
  exact ⟨h1, h3.1, h3.2⟩
theorem conf_kind {a b : Gd} (h : confB a b = false) : a.kind = b.kind := by
  unfold confB at h
  simp only [Bool.or_eq_false_iff] at h
  simpa using h.1
/-- Grades whose makes are known, right and without conflict. -/
structure Pair2 (a b : Gd) : Prop where
  whe : a.whe.length = 9 ∧ b.whe.length = 9
  lst : a.lst.length = 10 ∧ b.lst.length = 10
  mix : a.mix.length = 12 ∧ b.mix.length = 12
  pts : a.pts.length = 3 ∧ b.pts.length = 3
  cvs : a.cvs.length = 4 ∧ b.cvs.length = 4
  ra : Right a
  rb : Right b
  conf : confB a b = false
theorem Pair2.ys {a b : Gd} (h : Pair2 a b) {i : Nat} {c d : Cv} (hc : a.cvs[i]? = some c) (hd : b.cvs[i]? = some d) : c.kind = d.kind ∧ c.xs.length = d.xs.length ∧ c.ys.length = d.ys.length := by
  have hi : i < 4 := by have := (List.getElem?_eq_some_iff.1 hc).1; rw [h.cvs.1] at this; exact this
  obtain ⟨_, h1, h2⟩ := conf_cv h.conf hc hd hi
  have a1 := (h.ra.cvs c (List.mem_of_getElem? hc)).1
  have b1 := (h.rb.cvs d (List.mem_of_getElem? hd)).1
  exact ⟨h1, h2, by omega⟩
theorem Pair2.alike {a b : Gd} (h : Pair2 a b) : Alike a b := by
  refine ⟨h.whe, h.lst, h.mix, h.pts, h.cvs, fun q hq => ?_⟩
  obtain ⟨c, hc⟩ : ∃ c, a.cvs[q / 2]? = some c := ⟨_, List.getElem?_eq_getElem (by have := h.cvs.1; omega)⟩
  obtain ⟨d, hd⟩ : ∃ d, b.cvs[q / 2]? = some d := ⟨_, List.getElem?_eq_getElem (by have := h.cvs.2; omega)⟩
  obtain ⟨_, h1, h2⟩ := h.ys hc hd
  have e1 : a.cvs.getD (q / 2) ⟨0, [], []⟩ = c := by rw [List.getD_eq_getElem?_getD, hc]; rfl
  have e2 : b.cvs.getD (q / 2) ⟨0, [], []⟩ = d := by rw [List.getD_eq_getElem?_getD, hd]; rfl
  unfold cvV
  rw [e1, e2]
  split
  · exact h1
  · exact h2
theorem mix_0 {a b : Gd} (h : Pair2 a b) : mixG a b 0 = a := by
  have e1 := lerpL0 a.whe b.whe (by rw [h.whe.1, h.whe.2]) h.ra.whe
  have e2 := lerpL0 a.lst b.lst (by rw [h.lst.1, h.lst.2]) h.ra.lst
  have e3 := lerpL0 a.mix b.mix (by rw [h.mix.1, h.mix.2]) h.ra.mix
  have e4 : List.zipWith (mixCv 0) a.cvs b.cvs = a.cvs := zip_self0 _ _ _ (by rw [h.cvs.1, h.cvs.2]) fun i c d hc hd => by
    obtain ⟨h1, h2, h3⟩ := h.ys hc hd
    obtain ⟨_, _, _, n1, n2⟩ := h.ra.cvs c (List.mem_of_getElem? hc)
    unfold mixCv
    rw [lerpL0 _ _ h2 n1, lerpL0 _ _ h3 n2]
  have e5 : List.zipWith (fun n m => ptMix n m 0) a.pts b.pts = a.pts := zip_self0 _ _ _ (by rw [h.pts.1, h.pts.2]) fun i n m hn _ => pt0 (h.ra.pts n (List.mem_of_getElem? hn))
  unfold mixG
  rw [e1, e2, e3, e4, e5, lerp0 _ _ h.ra.piv, lerp0 _ _ h.ra.amt]
theorem mix_1 {a b : Gd} (h : Pair2 a b) : mixG a b 1065353216 = b := by
  have e1 := lerpL1 a.whe b.whe (by rw [h.whe.1, h.whe.2]) h.rb.whe
  have e2 := lerpL1 a.lst b.lst (by rw [h.lst.1, h.lst.2]) h.rb.lst
  have e3 := lerpL1 a.mix b.mix (by rw [h.mix.1, h.mix.2]) h.rb.mix
  have e4 : List.zipWith (mixCv 1065353216) a.cvs b.cvs = b.cvs := zip_self1 _ _ _ (by rw [h.cvs.1, h.cvs.2]) fun i c d hc hd => by
    obtain ⟨h1, h2, h3⟩ := h.ys hc hd
    obtain ⟨_, _, _, n1, n2⟩ := h.rb.cvs d (List.mem_of_getElem? hd)
    unfold mixCv
    rw [lerpL1 _ _ h2 n1, lerpL1 _ _ h3 n2, h1]
  have e5 : List.zipWith (fun n m => ptMix n m 1065353216) a.pts b.pts = b.pts := zip_self1 _ _ _ (by rw [h.pts.1, h.pts.2]) fun i n m _ hm => pt1 (h.rb.pts m (List.mem_of_getElem? hm))
  unfold mixG
  rw [e1, e2, e3, e4, e5, lerp1 _ _ h.rb.piv, lerp1 _ _ h.rb.amt, conf_kind h.conf]
end
end Go.Proofs.YtpmbmpfkoffioaaGreatDoor
