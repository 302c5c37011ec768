/- Slices of texts that a call has made; sorting and compacting them. (printed by gen_lkg.py) -/
import Derived.Test.YticekgnmiaidjaaGreatDoorMem
import Derived.Maps.OwnSet
import Derived.Maps.StringElems
import Derived.Maps.RangeWalk
import Derived.Sort.KeysCollected
import Derived.Test.YticekgnmiaidjaaGreatDoorShelf
import Derived.Lib.SlicesCompact
import Derived.Shelf.Slices.In.SortNone
import Derived.Deep.AppendLies
import Derived.OwnWalk
import Derived.Lib.OwnBridge
namespace Go.Proofs.YticekgnmiaidjaaGreatDoor

section
open Go.RowKit Go.Maps Go.WideShapes Go.WideMaps Go.ChangeMaps Go.MapKept

/-- The entries, plain. -/
def delG (A : List (ByteArray × Value)) (k : ByteArray) : List (ByteArray × Value) := A.filter fun p => !decide (p.1 = k)
def putG (A : List (ByteArray × Value)) (k : ByteArray) (v : Value) : List (ByteArray × Value) := (k, v) :: delG A k
def getG (A : List (ByteArray × Value)) (k : ByteArray) : Option Value := (A.find? fun p => decide (p.1 = k)).map (·.2)

def lpairG (p : ByteArray × Value) : Lit × DataW Value := (.string p.1.data.toList, .held p.2)
theorem bytes_inj {a b : ByteArray} : a.data.toList = b.data.toList ↔ a = b := by
  constructor
  · intro h
    cases a; cases b
    simpa using h
  · rintro rfl; rfl
theorem lpairG_key (p : ByteArray × Value) (k : ByteArray) : (lpairG p).1.sameKey (.string k.data.toList) = decide (p.1 = k) := by
  unfold lpairG
  rw [Bool.eq_iff_iff, decide_eq_true_iff, ← bytes_inj]
  simp only [Lit.sameKey, beq_iff_eq]
/-- Any value, as it is. -/
def heldE (v : Value) : Option (DataW Value × List MemPlace) := some (.held v, [])
theorem strK : Keyed Tryz.prog 9 := string_keyed Tryz.underlying9
/-- Block b is a map that holds just the entries A. -/
def MapG (w : World) (b : Nat) (A : List (ByteArray × Value)) : Prop :=
  (A.map (·.1)).Nodup ∧ (∀ p ∈ A, p.1.size ≤ maxLen) ∧ ∃ es, w.ownsMap (H := Value) Tryz.prog 9 heldE b A.length (.map es) ∧ es.Perm (A.map lpairG)
theorem MapG.lt {w : World} {b : Nat} {A : List (ByteArray × Value)} (h : MapG w b A) : b < w.heap.size := by
  obtain ⟨_, _, es, ho, _⟩ := h
  exact ho.lt
theorem MapG.lift {w w' : World} {b : Nat} {A : List (ByteArray × Value)} (h : MapG w b A) (hb : w'.heap[b]? = w.heap[b]?) : MapG w' b A := by
  obtain ⟨h1, h2, es, ⟨es', clock, g1, g2, g3, g4⟩, hp⟩ := h
  exact ⟨h1, h2, es, ⟨es', clock, hb.trans g1, g2, g3, g4⟩, hp⟩
theorem MapG.keep {w w' : World} {b : Nat} {A : List (ByteArray × Value)} (h : MapG w b A) (hb : Below w.heap.size w w') : MapG w' b A := h.lift (hb.block b h.lt)
theorem MapG.new (w : World) : MapG (w.alloc (.map #[] 0)) w.heap.size [] :=
  ⟨List.nodup_nil, (by simp), [], World.ownsMap_made _ _ _ _, .refl _⟩
theorem owns_fit {w : World} {b n : Nat} {es : List (Lit × DataW Value)} (h : w.ownsMap (H := Value) Tryz.prog 9 heldE b n (.map es)) : w.ownsMap (H := Value) Tryz.prog 9 heldE b es.length (.map es) := by
  obtain ⟨es', clock, g1, g2, g3, g4⟩ := h
  refine ⟨es', clock, g1, g2, ?_, g4⟩
  have := congrArg Maps.size g4
  simp only [Maps.size, length_sorted, List.length_map, Array.length_toList] at this
  omega
theorem delG_nodup {A : List (ByteArray × Value)} {k : ByteArray} (h : (A.map (·.1)).Nodup) : ((delG A k).map (·.1)).Nodup := by
  unfold delG
  exact List.Nodup.sublist (List.Sublist.map _ List.filter_sublist) h
theorem delG_not {A : List (ByteArray × Value)} {k : ByteArray} : k ∉ (delG A k).map (·.1) := by
  simp [delG]
theorem delG_mem {A : List (ByteArray × Value)} {k : ByteArray} {p : ByteArray × Value} : p ∈ delG A k ↔ p ∈ A ∧ p.1 ≠ k := by
  simp [delG]
theorem filter_lpairG (A : List (ByteArray × Value)) (k : ByteArray) : (A.map lpairG).filter (fun p => !p.1.sameKey (.string k.data.toList)) = (delG A k).map lpairG := by
  unfold delG
  rw [List.filter_map]
  congr 1
  apply List.filter_congr
  intro p _
  show (!(lpairG p).1.sameKey _) = _
  rw [lpairG_key]
theorem find_lpairG {A : List (ByteArray × Value)} (k : ByteArray) (hn : (A.map (·.1)).Nodup) {es : List (Lit × DataW Value)} (hp : es.Perm (A.map lpairG)) :
    es.find? (fun p => p.1.sameKey (.string k.data.toList)) = (A.find? fun p => decide (p.1 = k)).map lpairG := by
  have h1 : (A.map lpairG).find? (fun p => p.1.sameKey (.string k.data.toList)) = (A.find? fun p => decide (p.1 = k)).map lpairG := by
    rw [List.find?_map]
    congr 1
    congr 1
    funext p
    exact lpairG_key p k
  rw [← h1]
  cases he : (A.map lpairG).find? (fun p => p.1.sameKey (.string k.data.toList)) with
  | none =>
    rw [List.find?_eq_none] at he ⊢
    exact fun x hx => he x (hp.mem_iff.1 hx)
  | some y =>
    have hy := List.find?_some he
    have hm := hp.mem_iff.2 (List.mem_of_find?_eq_some he)
    cases he2 : es.find? (fun p => p.1.sameKey (.string k.data.toList)) with
    | none =>
      rw [List.find?_eq_none] at he2
      exact absurd hy (he2 y hm)
    | some z =>
      have hz := List.find?_some he2
      have hzm := hp.mem_iff.1 (List.mem_of_find?_eq_some he2)
      have hym := List.mem_of_find?_eq_some he
      rw [List.mem_map] at hzm hym
      obtain ⟨pz, hpz, rfl⟩ := hzm
      obtain ⟨py, hpy, rfl⟩ := hym
      simp only [lpairG_key, decide_eq_true_eq] at hy hz
      have : pz = py := by
        have hpw := List.pairwise_map.1 hn
        rcases List.mem_iff_getElem.1 hpz with ⟨i, hi, e1⟩
        rcases List.mem_iff_getElem.1 hpy with ⟨j, hj, e2⟩
        rcases Nat.lt_trichotomy i j with h | h | h
        · exact absurd (by rw [e1, e2, hz, hy]) (List.pairwise_iff_getElem.1 hpw i j hi hj h)
        · subst h; rw [← e1, ← e2]
        · exact absurd (by rw [e1, e2, hz, hy]) (List.pairwise_iff_getElem.1 hpw j i hj hi h)
      rw [this]
theorem zero_gr (w : World) : (zeroValue 22).run Tryz.prog w = .ok (.slice none 0 0) w := by kernel_rfl
theorem MapG.look_ok {w : World} {b : Nat} {A : List (ByteArray × Value)} (h : MapG w b A) (k : ByteArray) (hk : k.size ≤ maxLen) :
    (Instr.lookup 93 (.map (some b)) (.string k) true).run Tryz.prog w = .ok (.tuple #[(getG A k).getD (.slice none 0 0), .bool (getG A k).isSome]) w := by
  obtain ⟨hn, hs, es, ho, hp⟩ := h
  obtain ⟨v, ps, hrun, hv⟩ := ho.look_ok strK Tryz.underlying93 (zero_gr w) (show heldE (.slice none 0 0) = some (.held (.slice none 0 0), []) from rfl) (keyOf_string_mk Tryz.underlying9 hk)
  have hf := find_lpairG k hn hp
  have hs2 := Option.some.inj hv
  rw [hrun]
  have hh : Maps.has (DataW.map es) (.string k.data.toList) = (getG A k).isSome := by
    rw [Maps.has_eq]
    have e0 : (es.any fun p => p.1.sameKey (.string k.data.toList)) = (es.find? fun p => p.1.sameKey (.string k.data.toList)).isSome := by rw [List.isSome_find?]
    rw [e0, hf]
    unfold getG
    cases A.find? fun p => decide (p.1 = k) <;> rfl
  rw [hh]
  have hat : v = (getG A k).getD (.slice none 0 0) := by
    have h3 : (DataW.map es).atKey (.string k.data.toList) (.held (.slice none 0 0)) = .held v := (congrArg Prod.fst hs2).symm
    unfold DataW.atKey at h3
    simp only [hf] at h3
    unfold getG
    cases hq : A.find? fun p => decide (p.1 = k) with
    | none =>
      rw [hq] at h3
      simp only [Option.map_none] at h3
      have : (.slice none 0 0 : Value) = v := by simpa using h3
      exact this.symm
    | some p =>
      rw [hq] at h3
      simp only [Option.map_some, lpairG] at h3
      have : p.2 = v := by simpa using h3
      exact this.symm
  rw [hat]
theorem MapG.look {w : World} {b : Nat} {A : List (ByteArray × Value)} (h : MapG w b A) (k : ByteArray) (hk : k.size ≤ maxLen) :
    (Instr.lookup 93 (.map (some b)) (.string k) false).run Tryz.prog w = .ok ((getG A k).getD (.slice none 0 0)) w := by
  obtain ⟨hn, hs, es, ho, hp⟩ := h
  obtain ⟨v, ps, hrun, hv⟩ := ho.lookup strK Tryz.underlying93 (zero_gr w) (show heldE (.slice none 0 0) = some (.held (.slice none 0 0), []) from rfl) (keyOf_string_mk Tryz.underlying9 hk)
  have hf := find_lpairG k hn hp
  have hs2 := Option.some.inj hv
  rw [hrun]
  have hat : v = (getG A k).getD (.slice none 0 0) := by
    have h3 : (DataW.map es).atKey (.string k.data.toList) (.held (.slice none 0 0)) = .held v := (congrArg Prod.fst hs2).symm
    unfold DataW.atKey at h3
    simp only [hf] at h3
    unfold getG
    cases hq : A.find? fun p => decide (p.1 = k) with
    | none =>
      rw [hq] at h3
      simp only [Option.map_none] at h3
      have : (.slice none 0 0 : Value) = v := by simpa using h3
      exact this.symm
    | some p =>
      rw [hq] at h3
      simp only [Option.map_some, lpairG] at h3
      have : p.2 = v := by simpa using h3
      exact this.symm
  rw [hat]
/-- Only the map's block has turned. -/
theorem turned_only {w w' : World} {b : Nat} (h : w.mapTurned w' b) : Only b w w' := by
  obtain ⟨es, clock, es', clock', hb, rfl⟩ := h
  exact ⟨rfl, rfl, rfl, by simp [setBlock], fun k hk => heap_setBlock_other hb _ hk⟩
theorem MapG.put {w w' : World} {b n : Nat} {A : List (ByteArray × Value)} (h : MapG w b A) (k : ByteArray) (v : Value) (hk : k.size ≤ maxLen) (es : List (Lit × DataW Value)) (hp : es.Perm (A.map lpairG))
    (ho : w'.ownsMap (H := Value) Tryz.prog 9 heldE b n ((DataW.map es).put (.string k.data.toList) (.held v))) : MapG w' b (putG A k v) := by
  have hpp : (DataW.insert (.string k.data.toList, .held v) (es.filter fun p => !p.1.sameKey (.string k.data.toList))).Perm ((putG A k v).map lpairG) := by
    refine (insert_perm _ _).trans ?_
    unfold putG
    rw [List.map_cons]
    refine List.Perm.cons _ ?_
    rw [← filter_lpairG]
    exact hp.filter _
  refine ⟨?_, fun p hp => ?_, _, ?_, hpp⟩
  · unfold putG
    rw [List.map_cons, List.nodup_cons]
    exact ⟨delG_not, delG_nodup h.1⟩
  · unfold putG at hp
    rcases List.mem_cons.1 hp with rfl | hp
    · exact hk
    · exact h.2.1 p (delG_mem.1 hp).1
  · have := owns_fit ho
    rw [show (putG A k v).length = (DataW.insert (.string k.data.toList, .held v) (es.filter fun p => !p.1.sameKey (.string k.data.toList))).length by rw [hpp.length_eq, List.length_map]]
    exact this

/-- m[k] = v. -/
theorem mapG_update {w : World} {b : Nat} {A : List (ByteArray × Value)} {ops : Array Oper} {rest : List Oper} {o : Oper} {a : Act} {Q : Exit → Act → World → Prop} (hg : o.guard = none) (m x y : Operand)
    (hop : o.op = Op.mapUpdate 93 m x y) (h : MapG w b A) (hm : a.eval m = .map (some b)) (k : ByteArray) (v : Value) (hx : a.eval x = .string k) (hy : a.eval y = v) (hk : k.size ≤ maxLen) (hl : A.length < maxLen)
    (hK : ∀ w', MapG w' b (putG A k v) → Only b w w' → wpList Tryz.prog ops Q rest (a.put o.dst undef) w') : wpList Tryz.prog ops Q (o :: rest) a w := by
  have h' := h
  obtain ⟨hn, hs, es, ho, hp⟩ := h'
  exact wpList_mapUpdate_in w hg m x y _ hop _ _ strK Tryz.underlying93 _ b _ _ hm ho hl _ _ _ hx hy (keyOf_string_mk Tryz.underlying9 hk) _ [] (show heldE v = some (.held v, []) from rfl) fun w' h1 h2 => hK w' (h.put k v hk es hp h1) (turned_only h2)
theorem run_makeMap_g (w : World) : (Instr.makeMap 93 none).run Tryz.prog w = .ok (.map (some w.heap.size)) (w.alloc (.map #[] 0)) := by
  unfold Instr.makeMap
  rfl
/-- len(m). -/
theorem mapG_len {w : World} {b : Nat} {A : List (ByteArray × Value)} {ops : Array Oper} {rest : List Oper} {o : Oper} {a : Act} {Q : Exit → Act → World → Prop} (hg : o.guard = none) (m : Operand)
    (hop : o.op = Op.call { callee := Callee.builtin Builtin.len, args := #[m], argTypes := #[93] }) (h : MapG w b A) (hm : a.eval m = .map (some b))
    (hK : wpList Tryz.prog ops Q rest (a.put o.dst (.int .i64 (A.length : Int))) w) : wpList Tryz.prog ops Q (o :: rest) a w := by
  have h' := h
  obtain ⟨hn, hs, es, ho, hp⟩ := h'
  have e : Maps.size (DataW.map es) = A.length := by
    have := hp.length_eq
    rw [List.length_map] at this
    exact this
  refine wpList_len_own w hg m _ hop _ _ Tryz.underlying93 _ b _ _ hm ho ?_
  rw [e]
  exact hK
/-- A step of a range over such a map. -/
theorem next_sg (w : World) {ops : Array Oper} {rest : List Oper} {o : Oper} {a : Act} {Q : Exit → Act → World → Prop} (hg : o.guard = none) (it : Operand) (hop : o.op = Op.next it false)
    (b r n : Nat) (D : DataW Value) (left : Lit → Bool) (cnt : Nat) (hit : a.eval it = .pointer (some ⟨r, 0, none⟩)) (h : w.ranges Tryz.prog 9 heldE b r n D left cnt)
    (hDone : (∀ kl, left kl = false) → wpList Tryz.prog ops Q rest (a.put o.dst (.tuple #[.bool false])) w)
    (hMore : ∀ (x : ByteArray) (c : Value) (w' : World) (cnt' : Nat), x.size ≤ maxLen → left (.string x.data.toList) = true → (∀ zd, D.atKey (.string x.data.toList) zd = .held c) → w'.ranges Tryz.prog 9 heldE b r n D (fun z => left z && !z.sameKey (.string x.data.toList)) cnt' → cnt' < cnt →
      w.grownBy w' (some r) → (Instr.entry (.pointer (some ⟨r, 0, none⟩))).run Tryz.prog w' = .ok (.tuple #[.string x, c]) w' → wpList Tryz.prog ops Q rest (a.put o.dst (.tuple #[.bool true, .string x, c])) w') :
    wpList Tryz.prog ops Q (o :: rest) a w :=
  wpList_next_ranges w hg it hop 9 strK heldE Value.string (fun c : Value => c)
    (fun key kl hkey => by obtain ⟨x, rfl, _⟩ := Maps.keyOf_str Tryz.underlying9 hkey; exact ⟨_, rfl⟩)
    (fun v y hv => ⟨v, rfl⟩)
    b r n D left cnt hit h (fun _ hl => hDone hl) (fun x c kl y w' cnt' hkey hlk hv hat hrg hlt hgr _ hen => by
      obtain ⟨x', ex, rfl, hx⟩ := Maps.keyOf_str Tryz.underlying9 hkey
      have e : x' = x.data.toList := by
        have : (⟨x'.toArray⟩ : ByteArray) = x := by simpa [encStr] using ex.symm
        rw [← this]
      subst e
      have hy : y.1 = .held c := (congrArg Prod.fst (Option.some.inj hv)).symm
      exact hMore x c w' cnt' (by rw [Array.length_toList] at hx; exact hx) hlk (fun zd => (hat zd).trans hy) hrg hlt hgr hen)
theorem strKeys_permG {es : List (Lit × DataW Value)} {A : List (ByteArray × Value)} (hp : es.Perm (A.map lpairG)) : (strKeys (.map es)).Perm (A.map fun p => p.1.data.toList) := by
  show (es.map fun p => strOf p.1).Perm _
  have h := hp.map fun p => strOf p.1
  rw [List.map_map] at h
  exact h
end

section
open Go.RowKit

/-- All blocks but g are as they were; others may have come. -/
structure Oth (g : Nat) (w w' : World) : Prop where
  os : w'.os = w.os
  tape : w'.tape = w.tape
  output : w'.output = w.output
  size : w.heap.size ≤ w'.heap.size
  block : ∀ k, k < w.heap.size → k ≠ g → w'.heap[k]? = w.heap[k]?
theorem infoS : (Tryz.prog.info? 9).map (fun i => (i.zero, i.size, i.bytes)) = some (some (.string ⟨#[]⟩), 1, 16) := by kernel_rfl
def OwnS (B : Nat) (w : World) (v : Value) (S : List ByteArray) : Prop := w.ownsRow B 9 1 v S.length (S.map Value.string)
theorem own_keepg {w w' : World} {B : Nat} {e : TypeId} {s : Nat} {v : Value} {n : Nat} {xs : List Value} (h : w.ownsRow B e s v n xs) (hk : ∀ g, v.ownBlock = some g → g < w.heap.size → w'.heap[g]? = w.heap[g]?) : w'.ownsRow B e s v n xs := by
  refine ⟨h.1, ?_⟩
  rcases h.2 with h0 | ⟨g, cap, cur, e1, e2, e3, e4⟩
  · exact .inl h0
  · exact .inr ⟨g, cap, cur, e1, e2, (hk g (by rw [e1]; rfl) (Array.getElem?_eq_some_iff.1 e3).1).trans e3, e4⟩
theorem OwnS.keep {B : Nat} {w w' : World} {v : Value} {S : List ByteArray} (h : OwnS B w v S) (hb : Below w.heap.size w w') : OwnS B w' v S := own_keepg h fun g _ hg => hb.block g hg
theorem OwnS.form {B : Nat} {w : World} {v : Value} {S : List ByteArray} (h : OwnS B w v S) : (S = [] ∧ v = .slice none 0 0) ∨ ∃ g cap, v = .slice (some ⟨g, 0, none⟩) S.length cap ∧ B ≤ g ∧ g < w.heap.size ∧ S.length ≤ cap ∧ ∀ k, k < S.length → w.cell? ⟨g, k, none⟩ = some (.string (S.getD k default)) := by
  rcases h.2 with ⟨h0, h1⟩ | ⟨g, cap, cur, e1, e2, e3, e4, e5, e6, e7⟩
  · left; exact ⟨List.eq_nil_of_length_eq_zero h1, h0⟩
  · refine .inr ⟨g, cap, e1, e2, (Array.getElem?_eq_some_iff.1 e3).1, e4, fun k hk => ?_⟩
    rw [cell_of_row w g k cur _ (0, 0) e3]
    have h1 : (cur.toList.take (S.length * 1))[k]? = (S.map Value.string)[k]? := by rw [e7]
    rw [List.getElem?_take, if_pos (by omega)] at h1
    simpa [hk] using h1

/-- What an append leaves. -/
structure Apd (B : Nat) (w w' : World) (v v' : Value) : Prop where
  grown : w.grownBy w' v.ownBlock
  size : w.heap.size ≤ w'.heap.size
  at_ : ∃ g cap n, v' = .slice (some ⟨g, 0, none⟩) n cap ∧ (v.ownBlock = some g ∨ g = w.heap.size) ∧ B ≤ g ∧ g < w'.heap.size
theorem Apd.bx {B : Nat} {w w' : World} {v v' : Value} (h : Apd B w w' v v') {b : Nat} {T : TypeId} {cs : Array Value} (x : Bx w b T cs) (hne : v.ownBlock ≠ some b) : Bx w' b T cs := by
  unfold Bx
  rw [h.grown.block b x.lt (fun e => hne e.symm)]; exact x
theorem Apd.below {B W0 : Nat} {w0 w w' : World} {v v' : Value} (h : Apd B w w' v v') (hb : Below W0 w0 w) (hW : W0 ≤ B) (hB : B ≤ w.heap.size) (hv : ∀ g, v.ownBlock = some g → W0 ≤ g) : Below W0 w0 w' := hb.grown h.grown (by omega) hv
theorem Apd.own {B : Nat} {w w' : World} {v v' : Value} (h : Apd B w w' v v') {B2 s n : Nat} {e : TypeId} {v2 : Value} {xs : List Value} (x : w.ownsRow B2 e s v2 n xs) (hne : ∀ g, v2.ownBlock = some g → v.ownBlock ≠ some g) : w'.ownsRow B2 e s v2 n xs :=
  own_keepg x fun g hg hlt => h.grown.block g hlt (fun e => hne g hg e.symm)
theorem OwnS.base {B : Nat} {w : World} {v : Value} {S : List ByteArray} (h : OwnS B w v S) : ∀ g, v.ownBlock = some g → B ≤ g ∧ g < w.heap.size := by
  intro g hg
  rcases h.form with ⟨_, rfl⟩ | ⟨g', cap, rfl, h1, h2, _⟩
  · cases hg
  · simp only [Value.ownBlock, Option.some.injEq] at hg; omega
theorem str_append {B : Nat} {w : World} {L : List ByteArray} {p : ByteArray} {v : Value} {ops : Array Oper} {rest : List Oper} {o : Oper} {a : Act} {Q : Exit → Act → World → Prop} (hgd : o.guard = none) (s x : Operand)
    (ho : o.op = .call { callee := .builtin .append, args := #[s, x], argTypes := #[60, 60] }) (hs : a.eval s = v) (g : Nat) (hx : a.eval x = .slice (some ⟨g, 0, none⟩) 1 1) (hm : OwnS B w v L)
    (hc : Bx w g 9 #[.string p]) (hl : L.length ≤ 1000000000) (hB : B ≤ w.heap.size)
    (h : ∀ v' w', OwnS B w' v' (L ++ [p]) → Apd B w w' v v' → wpList Tryz.prog ops Q rest (a.put o.dst v') w') :
    wpList Tryz.prog ops Q (o :: rest) a w := by
  obtain ⟨i0, hi, hz0, hz1, hz2⟩ := info_parts infoS
  have hml : maxLen = 9223372036854775807 := rfl
  refine wpList_append_lies w hgd s x 60 ho B 9 i0 (.string ⟨#[]⟩) 1 16 Tryz.underlying60 hi hz0 hz1 hz2 rfl (by decide) _ L.length (L.map Value.string) hs hm ⟨g, 0, none⟩ 1 1 [.string p] hx rfl ?_ ?_ (by omega) (by omega) (by omega) hB _ rfl ?_
  · intro j u hj
    have := hc.all.1 j
    rw [show ((⟨g, 0, none⟩ : Addr).add j) = ⟨g, j, none⟩ by simp [Addr.add]; intro e; exact e.symm, this]
    simpa using hj
  · intro u hu
    obtain rfl : u = .string p := by simpa using hu
    rfl
  · intro g' cap' w' hown hgrow hat hlt
    have hg' : v.ownBlock = some g' ∨ g' = w.heap.size := hat
    refine h _ w' ?_ ⟨hgrow, hgrow.size, g', cap', _, rfl, hg', ?_, hlt⟩
    · unfold OwnS
      rw [List.map_append, List.length_append]; exact hown
    · rcases hg' with e | e
      · exact (OwnS.base hm g' e).1
      · omega
/-- Texts in their order. -/
def srtS (S : List ByteArray) : List ByteArray := ((S.map (·.data.toList)).mergeSort fun x y => decide (x ≤ y)).map fun l => ⟨l.toArray⟩
theorem srtS_perm (S : List ByteArray) : (srtS S).Perm S := by
  have h := (List.mergeSort_perm (S.map (·.data.toList)) fun x y => decide (x ≤ y)).map fun l => (⟨l.toArray⟩ : ByteArray)
  rw [List.map_map] at h
  have e : S.map ((fun l => (⟨l.toArray⟩ : ByteArray)) ∘ fun x => x.data.toList) = S := by
    conv => rhs; rw [← List.map_id S]
    apply List.map_congr_left
    intro x _
    simp
  rw [e] at h
  exact h
theorem srtS_len (S : List ByteArray) : (srtS S).length = S.length := (srtS_perm S).length_eq
open Go.Sort Go.Lib in
theorem oth_sort {w : World} {g q : Nat} {d : Array (List UInt8)} {os : Array Obj} : Oth g w (grow (putRow encStr (Sort.ahead w q) g 0 d) os) :=
  ⟨rfl, rfl, rfl, by simp [grow, putRow, mapBlock, Sort.ahead], fun k hk hne => by
    rw [heap_grow_old _ _ (by simpa [putRow, mapBlock, Sort.ahead] using hk)]
    simp [putRow, mapBlock, Sort.ahead, Array.getElem?_modify, show g ≠ k from fun e => hne e.symm]⟩
open Go.Sort Go.Lib in
theorem owns_growS {w : World} {base s n : Nat} {e : TypeId} {v : Value} {xs : List Value} {os : Array Obj} (h : w.ownsRow base e s v n xs) : (grow w os).ownsRow base e s v n xs := by
  refine ⟨h.1, ?_⟩
  rcases h.2 with h0 | ⟨g, cap, cur, e1, e2, e3, e4⟩
  · exact .inl h0
  · exact .inr ⟨g, cap, cur, e1, e2, by rw [heap_grow_old _ _ (Array.getElem?_eq_some_iff.1 e3).1]; exact e3, e4⟩
open Go.Sort Go.Lib in
theorem sort_reels {W : World} {B g n cap : Nat} {S : List ByteArray} (h : OwnS B W (.slice (some ⟨g, 0, none⟩) n cap) S) (hn : n < 4611686018427387904) :
    Calls Tryz.prog 103 #[.slice (some ⟨g, 0, none⟩) n cap] W fun e w' => e = .returned (.tuple #[]) ∧ OwnS B w' (.slice (some ⟨g, 0, none⟩) n cap) (srtS S) ∧ Oth g W w' := by
  unfold OwnS at h
  rw [← map_encStr] at h
  obtain ⟨g', cap', e1, hg, hlt, hnc, hcm, hl, hH⟩ := holds_of_ownsRow h (by intro e; cases e)
  injection e1 with e1 e2 e3
  injection e1 with e1
  injection e1 with e1
  subst e1; subst e3
  have hl2 : S.length = n := e2.symm
  have hc := Tryz.slices_Sort_string g 0 cap (S.map (·.data.toList)) W hH hlt (by rw [List.length_map, hl2]; exact hn)
  rw [List.length_map, hl2] at hc
  refine hc.mono ?_
  rintro e w' ⟨rfl, q, os, rfl⟩
  have hlen : ((S.map (·.data.toList)).mergeSort fun x y => decide (x ≤ y)).length = n := by rw [List.length_mergeSort, List.length_map, hl2]
  refine ⟨rfl, ?_, oth_sort⟩
  rw [hl2] at h
  have h3 := owns_growS (os := os) (ownsRow_putRow (q := q) h hlen (Nat.le_refl _))
  rw [← hlen, List.take_length, hlen] at h3
  unfold OwnS
  rw [srtS_len, hl2]
  have e : (srtS S).map Value.string = ((S.map (·.data.toList)).mergeSort fun x y => decide (x ≤ y)).map encStr := by
    unfold srtS
    rw [List.map_map]
    rfl
  rw [e]
  exact h3
theorem srtS_eq {S T : List ByteArray} (h : S.Perm T) : srtS S = srtS T := by
  unfold srtS
  rw [mergeSort_of_perm (h.map _)]
theorem srtS_le (S : List ByteArray) : (srtS S).Pairwise fun a b => a.data.toList ≤ b.data.toList := by
  have hp : ((S.map (·.data.toList)).mergeSort fun x y => decide (x ≤ y)).Pairwise fun a b => decide (a ≤ b) = true := by
    apply List.pairwise_mergeSort
    · intro a b c h1 h2
      simp only [decide_eq_true_eq] at *
      exact List.le_trans h1 h2
    · intro a b
      simp only [Bool.or_eq_true, decide_eq_true_eq]
      exact List.le_total a b
  unfold srtS
  rw [List.pairwise_map]
  refine hp.imp ?_
  intro a b h
  simpa using of_decide_eq_true h
theorem below_of_grown {w w' : World} (h : w.grownBy w' none) : Below w.heap.size w w' := (Below.refl _ _).grown h (Nat.le_refl _) (fun g hg => by cases hg)
theorem unL {S : List ByteArray} {L : List (List UInt8)} (h : (S.map fun x => x.data.toList).Perm L) {T : List ByteArray} (hT : L = T.map fun x => x.data.toList) : S.Perm T := by
  subst hT
  have h2 := h.map fun l => (⟨l.toArray⟩ : ByteArray)
  have e : ∀ U : List ByteArray, (U.map fun x => x.data.toList).map (fun l => (⟨l.toArray⟩ : ByteArray)) = U := fun U => by
    rw [List.map_map]
    conv => rhs; rw [← List.map_id U]
    apply List.map_congr_left
    intro x _
    simp
  rw [e, e] at h2
  exact h2
theorem own_monoS {w : World} {B B' : Nat} {v : Value} {S : List ByteArray} (h : OwnS B w v S) (hb : B' ≤ B) : OwnS B' w v S := by
  refine ⟨h.1, ?_⟩
  rcases h.2 with h0 | ⟨g, cap, cur, e1, e2, e3⟩
  · exact .inl h0
  · exact .inr ⟨g, cap, cur, e1, by omega, e3⟩
/-- slices.Compact of texts, plain. -/
def cmpS (S : List ByteArray) : List ByteArray := (Lib.compact (S.map (·.data.toList))).map fun l => ⟨l.toArray⟩
open Go.Sort Go.Lib in
theorem oth_put {w : World} {g q : Nat} {d : Array (List UInt8)} : Oth g w (putRow encStr (Sort.ahead w q) g 0 d) :=
  ⟨rfl, rfl, rfl, by simp [putRow, mapBlock, Sort.ahead], fun k hk hne => by simp [putRow, mapBlock, Sort.ahead, Array.getElem?_modify, show g ≠ k from fun e => hne e.symm]⟩
open Go.Sort Go.Lib in
theorem compact_texts {W : World} {B g n cap : Nat} {S : List ByteArray} (h : OwnS B W (.slice (some ⟨g, 0, none⟩) n cap) S) (hn : n < 4611686018427387904) :
    Calls Tryz.prog 104 #[.slice (some ⟨g, 0, none⟩) n cap] W fun e w' => e = .returned (.slice (some ⟨g, 0, none⟩) (cmpS S).length cap) ∧ OwnS B w' (.slice (some ⟨g, 0, none⟩) (cmpS S).length cap) (cmpS S) ∧ Oth g W w' := by
  unfold OwnS at h
  rw [← map_encStr] at h
  obtain ⟨g', cap', e1, hg, hlt, hnc, hcm, hl, hH⟩ := holds_of_ownsRow h (by intro e; cases e)
  injection e1 with e1 e2 e3
  injection e1 with e1
  injection e1 with e1
  subst e1; subst e3
  have hl2 : S.length = n := e2.symm
  have hc := Tryz.slices_Compact_string g 0 cap (S.map (·.data.toList)) W hH (by rw [List.length_map, hl2]; omega) (by rw [List.length_map]; exact hnc)
  rw [List.length_map, hl2] at hc
  refine hc.mono ?_
  rintro e w' ⟨rfl, q, rfl⟩
  have hcl : (cmpS S).length = (Lib.compact (S.map (·.data.toList))).length := by unfold cmpS; rw [List.length_map]
  have hle : (Lib.compact (S.map (·.data.toList))).length ≤ n := by
    have := compact_length_le (S.map (·.data.toList))
    rw [List.length_map, hl2] at this
    exact this
  rw [hcl]
  refine ⟨rfl, ?_, oth_put⟩
  rw [hl2] at h
  have h3 := ownsRow_putRow (q := q) (ys := Lib.compact (S.map (·.data.toList)) ++ List.replicate (n - (Lib.compact (S.map (·.data.toList))).length) []) h (by simp; omega) hle
  rw [List.take_left] at h3
  unfold OwnS
  rw [hcl]
  have e : (cmpS S).map Value.string = (Lib.compact (S.map (·.data.toList))).map encStr := by
    unfold cmpS
    rw [List.map_map]
    rfl
  rw [e]
  exact h3
end
end Go.Proofs.YticekgnmiaidjaaGreatDoor
