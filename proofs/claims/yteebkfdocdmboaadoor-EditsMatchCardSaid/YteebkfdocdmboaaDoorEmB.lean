/- A map from reels to slices of pulls; pulls and reels that a call gathers. -/
import Derived.Test.YteebkfdocdmboaaDoorSqA
import Derived.MapKept
import Derived.Deep.AppendLies
import Derived.OwnWalk
namespace Go.Proofs.YteebkfdocdmboaaDoor
open Go.RowKit

/-- The entries, as the map has them: in the order in which they came. -/
def sE : Nat → List (ByteArray × Value) → List MapEntry
  | _, [] => []
  | n, (p, v) :: E => { key := .string p, val := v, born := n } :: sE (n + 1) E
theorem sE_append (n : Nat) (E : List (ByteArray × Value)) (p : ByteArray) (v : Value) : sE n (E ++ [(p, v)]) = sE n E ++ [{ key := .string p, val := v, born := n + E.length }] := by
  induction E generalizing n with
  | nil => rfl
  | cons a E ih =>
    obtain ⟨q, u⟩ := a
    rw [List.cons_append, sE, sE, ih, List.cons_append, List.length_cons]
    congr 4
    omega
/-- What stands at a reel, and where. -/
def findI : List (ByteArray × Value) → ByteArray → Nat → Option (Nat × Value)
  | [], _, _ => none
  | (q, u) :: E, p, i => if p = q then some (i, u) else findI E p (i + 1)
def findS (E : List (ByteArray × Value)) (p : ByteArray) : Option Value := (findI E p 0).map (·.2)
def putS : List (ByteArray × Value) → ByteArray → Value → List (ByteArray × Value)
  | [], p, v => [(p, v)]
  | (q, u) :: E, p, v => if p = q then (q, v) :: E else (q, u) :: putS E p v
theorem bytes_beq (p q : ByteArray) : (p == q) = decide (p = q) := by
  show (p.data == q.data) = _
  rw [Bool.eq_iff_iff, decide_eq_true_eq, beq_iff_eq]
  constructor
  · intro h; cases p; cases q; simpa using h
  · rintro rfl; rfl
theorem findNow_s (p : ByteArray) : ∀ (E : List (ByteArray × Value)) (n i : Nat), Instr.findNow .string (.string p) (sE n E) i = some (findI E p i) := by
  intro E
  induction E with
  | nil => intro n i; rfl
  | cons a E ih =>
    intro n i
    obtain ⟨q, u⟩ := a
    have hs : Instr.sameNow .string (.string p) (.string q) = some (p == q) := rfl
    rw [sE, Instr.findNow]
    simp only [hs]
    rw [bytes_beq, findI]
    by_cases h : p = q
    · simp [h]
    · simp only [decide_eq_false h, if_neg h]
      exact ih (n + 1) (i + 1)
theorem findI_none : ∀ {E : List (ByteArray × Value)} {p : ByteArray} {i : Nat} (v : Value), findI E p i = none → putS E p v = E ++ [(p, v)]
  | [], p, i, v, _ => rfl
  | (q, u) :: E, p, i, v, h => by
    rw [findI] at h
    split at h
    · cases h
    · rename_i hne
      rw [putS, if_neg hne, findI_none v h, List.cons_append]
theorem findI_some : ∀ {E : List (ByteArray × Value)} {p : ByteArray} {i j : Nat} {u : Value} (v : Value) (n : Nat), findI E p i = some (j, u) → i ≤ j ∧ j - i < E.length ∧ (sE n E)[j - i]?.map (·.key) = some (.string p) ∧
      (sE n E).modify (j - i) (fun e => { e with key := .string p, val := v }) = sE n (putS E p v) ∧ (putS E p v).length = E.length
  | [], p, i, j, u, v, n, h => by cases h
  | (q, u') :: E, p, i, j, u, v, n, h => by
    rw [findI] at h
    split at h
    · rename_i he
      cases h
      subst he
      refine ⟨Nat.le_refl _, by simp, by simp [sE], ?_, ?_⟩
      · rw [Nat.sub_self, putS, if_pos rfl, sE, sE]; rfl
      · rw [putS, if_pos rfl]; rfl
    · rename_i hne
      obtain ⟨h1, h2, h3, h4, h5⟩ := findI_some v (n + 1) h
      have e : j - i = (j - (i + 1)) + 1 := by omega
      refine ⟨by omega, by simp; omega, ?_, ?_, ?_⟩
      · rw [e, sE, List.getElem?_cons_succ]; exact h3
      · rw [e, putS, if_neg hne, sE, sE, List.modify_succ_cons, h4]
      · rw [putS, if_neg hne, List.length_cons, h5, List.length_cons]
theorem sE_length (n : Nat) (E : List (ByteArray × Value)) : (sE n E).length = E.length := by
  induction E generalizing n with
  | nil => rfl
  | cons a E ih => obtain ⟨q, u⟩ := a; rw [sE, List.length_cons, ih, List.length_cons]

/-- Block r is the map with these entries. -/
def MapS (w : World) (r : Nat) (E : List (ByteArray × Value)) : Prop := w.heap[r]? = some (.map (sE 0 E).toArray E.length)
theorem MapS.lt {w : World} {r : Nat} {E : List (ByteArray × Value)} (h : MapS w r E) : r < w.heap.size := (Array.getElem?_eq_some_iff.1 h).1
theorem MapS.keep {w w' : World} {r : Nat} {E : List (ByteArray × Value)} (h : MapS w r E) (hb : Below w.heap.size w w') : MapS w' r E := (hb.block r h.lt).trans h
theorem MapS.put {w : World} {r b i : Nat} {E : List (ByteArray × Value)} {u : Value} (h : MapS w r E) (hne : r ≠ b) : MapS (w.setCell ⟨b, i, none⟩ u) r E := by
  unfold MapS
  rw [Below.heap_setCell _ _ _ _ (by dsimp only; omega)]
  exact h
theorem MapS.grown {w w' : World} {r : Nat} {E : List (ByteArray × Value)} {row : Option Nat} (h : MapS w r E) (hg : w.grownBy w' row) (hne : row ≠ some r) : MapS w' r E := by
  unfold MapS
  rw [hg.block r h.lt (fun e => hne e.symm)]
  exact h
theorem MapS.oth {w w' : World} {r g : Nat} {E : List (ByteArray × Value)} (h : MapS w r E) (ho : Oth g w w') (hne : r ≠ g) : MapS w' r E := (ho.block r h.lt hne).trans h
theorem MapS.new (w : World) : MapS (w.alloc (.map #[] 0)) w.heap.size [] := MapKept.heap_alloc w _ |>.1
def setMapS (w : World) (r : Nat) (E : List (ByteArray × Value)) : World := { w with heap := w.heap.setIfInBounds r (.map (sE 0 E).toArray E.length) }
theorem MapS.set {w : World} {r : Nat} {E : List (ByteArray × Value)} (h : MapS w r E) (E' : List (ByteArray × Value)) : MapS (setMapS w r E') r E' := by
  unfold MapS setMapS
  exact Array.getElem?_setIfInBounds_self_of_lt h.lt
theorem setMapS_only (w : World) (r : Nat) (E : List (ByteArray × Value)) : Only r w (setMapS w r E) :=
  ⟨rfl, rfl, rfl, by simp [setMapS], fun k hk => by unfold setMapS; rw [Array.getElem?_setIfInBounds_ne (by omega)]⟩

theorem run_findKey_s (p : ByteArray) (w : World) (E : List (ByteArray × Value)) : (Instr.findKey 9 (.string p) (sE 0 E)).run Tryd.prog w = .ok (findI E p 0) w := by
  unfold Instr.findKey
  simp [run_underlying Tryd.underlying9, findNow_s]
theorem run_checkKey_s (e : Bool) (p : ByteArray) (w : World) : (Instr.checkKey e 10000 9 (.string p)).run Tryd.prog w = .ok () w := by
  kernel_rfl
theorem keyThatStays_s (p : ByteArray) : Instr.keyThatStays (.string p) (.string p) = pure (.string p) := by
  have h : ∀ n, Instr.sameBits n (.string p) (.string p) = (p == p) := fun n => by cases n <;> rfl
  unfold Instr.keyThatStays
  rw [h, bytes_beq, decide_eq_true rfl, if_pos rfl]
theorem run_lookup_s {w : World} {r : Nat} {E : List (ByteArray × Value)} (h : MapS w r E) (p : ByteArray) :
    (Instr.lookup 50 (.map (some r)) (.string p) false).run Tryd.prog w = .ok ((findS E p).getD (.slice none 0 0)) w := by
  have h1 := run_findKey_s p w E
  have hz : (zeroValue 33).run Tryd.prog w = .ok (.slice none 0 0) w := by kernel_rfl
  unfold Instr.lookup findS
  cases hx : findI E p 0 with
  | none => simp [run_underlying Tryd.underlying50, MapKept.run_getObj_map h, run_checkKey_s, h1, hz, hx]
  | some y => simp [run_underlying Tryd.underlying50, MapKept.run_getObj_map h, run_checkKey_s, h1, hz, hx]
theorem run_mapUpdate_s {w : World} {r : Nat} {E : List (ByteArray × Value)} (h : MapS w r E) (p : ByteArray) (v : Value) :
    (Instr.mapUpdate 50 (.map (some r)) (.string p) v).run Tryd.prog w = .ok () (setMapS w r (putS E p v)) := by
  have h1 := run_findKey_s p w E
  unfold Instr.mapUpdate
  cases hx : findI E p 0 with
  | none =>
    have hs : setMapS w r (putS E p v) = { w with heap := w.heap.setIfInBounds r (.map ((sE 0 E).toArray.push { key := .string p, val := v, born := E.length }) (E.length + 1)) } := by
      unfold setMapS
      rw [findI_none v hx, sE_append, List.length_append, Nat.zero_add]
      simp
    rw [hs]
    simp [run_underlying Tryd.underlying50, MapKept.run_getObj_map h, run_checkKey_s, h1, hx, MapKept.run_setObj_map _ h]
  | some y =>
    obtain ⟨j, u⟩ := y
    obtain ⟨_, h3, h4, h5, h6⟩ := findI_some v 0 hx
    rw [Nat.sub_zero] at h3 h4 h5
    have hs : setMapS w r (putS E p v) = { w with heap := w.heap.setIfInBounds r (.map ((sE 0 E).toArray.modify j fun e => { e with key := .string p, val := v }) E.length) } := by
      unfold setMapS
      have e : ((sE 0 E).modify j fun e => { e with key := .string p, val := v }).toArray = (sE 0 E).toArray.modify j fun e => { e with key := .string p, val := v } := by
        apply Array.ext'
        simp
      rw [← h5, h6, e]
    rw [hs]
    have hk := keyThatStays_s p
    simp [run_underlying Tryd.underlying50, MapKept.run_getObj_map h, run_checkKey_s, h1, hx, h4, hk, MapKept.run_setObj_map _ h]
theorem run_makeMap_s (w : World) : (Instr.makeMap 50 none).run Tryd.prog w = .ok (.map (some w.heap.size)) (w.alloc (.map #[] 0)) := by
  unfold Instr.makeMap
  rfl

theorem infoP : (Tryd.prog.info? 38).map (fun i => (i.zero, i.size, i.bytes)) = some (some (.agg #[.string ⟨#[]⟩, .int .i64 0, .int .i64 0]), 3, 32) := by kernel_rfl
theorem infoS : (Tryd.prog.info? 9).map (fun i => (i.zero, i.size, i.bytes)) = some (some (.string ⟨#[]⟩), 1, 16) := by kernel_rfl
/-- v is a slice of the call's own that reads as the pulls L; or nil, and L has none. -/
def OwnQ (B : Nat) (w : World) (v : Value) (L : List Pl) : Prop := w.ownsRow B 38 3 v L.length (plCells L)
def OwnS (B : Nat) (w : World) (v : Value) (S : List ByteArray) : Prop := w.ownsRow B 9 1 v S.length (S.map Value.string)
theorem own_keepg {w w' : World} {B : Nat} {e : TypeId} {s : Nat} {v : Value} {n : Nat} {xs : List Value} (h : w.ownsRow B e s v n xs) (hk : ∀ g, v.ownBlock = some g → g < w.heap.size → w'.heap[g]? = w.heap[g]?) : w'.ownsRow B e s v n xs := by
  refine ⟨h.1, ?_⟩
  rcases h.2 with h0 | ⟨g, cap, cur, e1, e2, e3, e4⟩
  · exact .inl h0
  · exact .inr ⟨g, cap, cur, e1, e2, (hk g (by rw [e1]; rfl) (Array.getElem?_eq_some_iff.1 e3).1).trans e3, e4⟩
theorem OwnQ.keep {B : Nat} {w w' : World} {v : Value} {L : List Pl} (h : OwnQ B w v L) (hb : Below w.heap.size w w') : OwnQ B w' v L := own_keepg h fun g _ hg => hb.block g hg
theorem OwnS.keep {B : Nat} {w w' : World} {v : Value} {S : List ByteArray} (h : OwnS B w v S) (hb : Below w.heap.size w w') : OwnS B w' v S := own_keepg h fun g _ hg => hb.block g hg
theorem OwnQ.form {B : Nat} {w : World} {v : Value} {L : List Pl} (h : OwnQ B w v L) : (L = [] ∧ v = .slice none 0 0) ∨ ∃ g cap, v = .slice (some ⟨g, 0, none⟩) L.length cap ∧ B ≤ g ∧ g < w.heap.size ∧ L.length ≤ cap ∧ RowQ w g L.length L := by
  rcases h.2 with ⟨h0, h1⟩ | ⟨g, cap, cur, e1, e2, e3, e4, e5, e6, e7⟩
  · left; exact ⟨List.eq_nil_of_length_eq_zero h1, h0⟩
  · refine .inr ⟨g, cap, e1, e2, (Array.getElem?_eq_some_iff.1 e3).1, e4, rfl, cur, cur.toList.drop (L.length * 3), e3, ?_⟩
    rw [← e7, List.take_append_drop]
theorem OwnS.form {B : Nat} {w : World} {v : Value} {S : List ByteArray} (h : OwnS B w v S) : (S = [] ∧ v = .slice none 0 0) ∨ ∃ g cap, v = .slice (some ⟨g, 0, none⟩) S.length cap ∧ B ≤ g ∧ g < w.heap.size ∧ S.length ≤ cap ∧ ∀ k, k < S.length → w.cell? ⟨g, k, none⟩ = some (.string (S.getD k default)) := by
  rcases h.2 with ⟨h0, h1⟩ | ⟨g, cap, cur, e1, e2, e3, e4, e5, e6, e7⟩
  · left; exact ⟨List.eq_nil_of_length_eq_zero h1, h0⟩
  · refine .inr ⟨g, cap, e1, e2, (Array.getElem?_eq_some_iff.1 e3).1, e4, fun k hk => ?_⟩
    rw [cell_of_row w g k cur _ (0, 0) e3]
    have h1 : (cur.toList.take (S.length * 1))[k]? = (S.map Value.string)[k]? := by rw [e7]
    rw [List.getElem?_take, if_pos (by omega)] at h1
    simpa [hk] using h1

/-- What an append leaves. -/
structure Apd (B : Nat) (w w' : World) (v v' : Value) : Prop where
  grown : w.grownBy w' v.ownBlock
  size : w.heap.size ≤ w'.heap.size
  at_ : ∃ g cap n, v' = .slice (some ⟨g, 0, none⟩) n cap ∧ (v.ownBlock = some g ∨ g = w.heap.size) ∧ B ≤ g ∧ g < w'.heap.size
theorem Apd.bx {B : Nat} {w w' : World} {v v' : Value} (h : Apd B w w' v v') {b : Nat} {T : TypeId} {cs : Array Value} (x : Bx w b T cs) (hne : v.ownBlock ≠ some b) : Bx w' b T cs := by
  unfold Bx
  rw [h.grown.block b x.lt (fun e => hne e.symm)]; exact x
theorem Apd.map {B : Nat} {w w' : World} {v v' : Value} (h : Apd B w w' v v') {r : Nat} {E : List (ByteArray × Value)} (x : MapS w r E) (hne : v.ownBlock ≠ some r) : MapS w' r E := x.grown h.grown hne
theorem Apd.below {B W0 : Nat} {w0 w w' : World} {v v' : Value} (h : Apd B w w' v v') (hb : Below W0 w0 w) (hW : W0 ≤ B) (hB : B ≤ w.heap.size) (hv : ∀ g, v.ownBlock = some g → W0 ≤ g) : Below W0 w0 w' := hb.grown h.grown (by omega) hv
theorem Apd.own {B : Nat} {w w' : World} {v v' : Value} (h : Apd B w w' v v') {B2 s n : Nat} {e : TypeId} {v2 : Value} {xs : List Value} (x : w.ownsRow B2 e s v2 n xs) (hne : ∀ g, v2.ownBlock = some g → v.ownBlock ≠ some g) : w'.ownsRow B2 e s v2 n xs :=
  own_keepg x fun g hg hlt => h.grown.block g hlt (fun e => hne g hg e.symm)
theorem OwnQ.base {B : Nat} {w : World} {v : Value} {L : List Pl} (h : OwnQ B w v L) : ∀ g, v.ownBlock = some g → B ≤ g ∧ g < w.heap.size := by
  intro g hg
  rcases h.form with ⟨_, rfl⟩ | ⟨g', cap, rfl, h1, h2, _⟩
  · cases hg
  · simp only [Value.ownBlock, Option.some.injEq] at hg; omega
theorem OwnS.base {B : Nat} {w : World} {v : Value} {S : List ByteArray} (h : OwnS B w v S) : ∀ g, v.ownBlock = some g → B ≤ g ∧ g < w.heap.size := by
  intro g hg
  rcases h.form with ⟨_, rfl⟩ | ⟨g', cap, rfl, h1, h2, _⟩
  · cases hg
  · simp only [Value.ownBlock, Option.some.injEq] at hg; omega
theorem pl_append {B : Nat} {w : World} {L : List Pl} {p : Pl} {v : Value} {ops : Array Oper} {rest : List Oper} {o : Oper} {a : Act} {Q : Exit → Act → World → Prop} (hgd : o.guard = none) (s x : Operand)
    (ho : o.op = .call { callee := .builtin .append, args := #[s, x], argTypes := #[33, 33] }) (hs : a.eval s = v) (g : Nat) (hx : a.eval x = .slice (some ⟨g, 0, none⟩) 1 1) (hm : OwnQ B w v L)
    (hc : Bx w g 38 #[.string p.reel, .int .i64 p.inn, .int .i64 p.out]) (hl : L.length ≤ 1000000) (hB : B ≤ w.heap.size)
    (h : ∀ v' w', OwnQ B w' v' (L ++ [p]) → Apd B w w' v v' → wpList Tryd.prog ops Q rest (a.put o.dst v') w') :
    wpList Tryd.prog ops Q (o :: rest) a w := by
  obtain ⟨i0, hi, hz0, hz1, hz2⟩ := info_parts infoP
  have hml : maxLen = 9223372036854775807 := rfl
  refine wpList_append_lies w hgd s x 33 ho B 38 i0 (.agg #[.string ⟨#[]⟩, .int .i64 0, .int .i64 0]) 3 32 Tryd.underlying33 hi hz0 hz1 hz2 rfl (by decide) _ L.length (plCells L) hs hm ⟨g, 0, none⟩ 1 1 (plCells [p]) hx rfl ?_ plCells_one (by omega) (by omega) (by omega) hB _ rfl ?_
  · intro j u hj
    have := hc.all.1 j
    rw [show ((⟨g, 0, none⟩ : Addr).add j) = ⟨g, j, none⟩ by simp [Addr.add]; intro e; exact e.symm, this]
    simpa [plCells, plC] using hj
  · intro g' cap' w' hown hgrow hat hlt
    have hg' : v.ownBlock = some g' ∨ g' = w.heap.size := hat
    refine h _ w' ?_ ⟨hgrow, hgrow.size, g', cap', _, rfl, hg', ?_, hlt⟩
    · unfold OwnQ
      rw [plCells_append, List.length_append]; exact hown
    · rcases hg' with e | e
      · exact (OwnQ.base hm g' e).1
      · omega
theorem str_append {B : Nat} {w : World} {L : List ByteArray} {p : ByteArray} {v : Value} {ops : Array Oper} {rest : List Oper} {o : Oper} {a : Act} {Q : Exit → Act → World → Prop} (hgd : o.guard = none) (s x : Operand)
    (ho : o.op = .call { callee := .builtin .append, args := #[s, x], argTypes := #[51, 51] }) (hs : a.eval s = v) (g : Nat) (hx : a.eval x = .slice (some ⟨g, 0, none⟩) 1 1) (hm : OwnS B w v L)
    (hc : Bx w g 9 #[.string p]) (hl : L.length ≤ 1000000) (hB : B ≤ w.heap.size)
    (h : ∀ v' w', OwnS B w' v' (L ++ [p]) → Apd B w w' v v' → wpList Tryd.prog ops Q rest (a.put o.dst v') w') :
    wpList Tryd.prog ops Q (o :: rest) a w := by
  obtain ⟨i0, hi, hz0, hz1, hz2⟩ := info_parts infoS
  have hml : maxLen = 9223372036854775807 := rfl
  refine wpList_append_lies w hgd s x 51 ho B 9 i0 (.string ⟨#[]⟩) 1 16 Tryd.underlying51 hi hz0 hz1 hz2 rfl (by decide) _ L.length (L.map Value.string) hs hm ⟨g, 0, none⟩ 1 1 [.string p] hx rfl ?_ ?_ (by omega) (by omega) (by omega) hB _ rfl ?_
  · intro j u hj
    have := hc.all.1 j
    rw [show ((⟨g, 0, none⟩ : Addr).add j) = ⟨g, j, none⟩ by simp [Addr.add]; intro e; exact e.symm, this]
    simpa using hj
  · intro u hu
    obtain rfl : u = .string p := by simpa using hu
    rfl
  · intro g' cap' w' hown hgrow hat hlt
    have hg' : v.ownBlock = some g' ∨ g' = w.heap.size := hat
    refine h _ w' ?_ ⟨hgrow, hgrow.size, g', cap', _, rfl, hg', ?_, hlt⟩
    · unfold OwnS
      rw [List.map_append, List.length_append]; exact hown
    · rcases hg' with e | e
      · exact (OwnS.base hm g' e).1
      · omega
end Go.Proofs.YteebkfdocdmboaaDoor
