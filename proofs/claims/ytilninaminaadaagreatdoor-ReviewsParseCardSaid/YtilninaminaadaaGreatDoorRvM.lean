/- A map from texts to texts. -/
import Derived.Test.YtilninaminaadaaGreatDoorRvR
import Derived.Maps.OwnSet
import Derived.Maps.StringElems
import Derived.Maps.RangeWalk
import Derived.Sort.KeysCollected
namespace Go.Proofs.YtilninaminaadaaGreatDoor
open Go.RowKit Go.Maps Go.WideShapes Go.WideMaps Go.ChangeMaps Go.MapKept

/-- The entries, plain. -/
def delA (A : List (ByteArray × ByteArray)) (k : ByteArray) : List (ByteArray × ByteArray) := A.filter fun p => !decide (p.1 = k)
def putA (A : List (ByteArray × ByteArray)) (k v : ByteArray) : List (ByteArray × ByteArray) := (k, v) :: delA A k
def getA (A : List (ByteArray × ByteArray)) (k : ByteArray) : Option ByteArray := (A.find? fun p => decide (p.1 = k)).map (·.2)

def lpair (p : ByteArray × ByteArray) : Lit × DataW Unit := (.string p.1.data.toList, .lit (.string p.2.data.toList))
theorem bytes_inj {a b : ByteArray} : a.data.toList = b.data.toList ↔ a = b := by
  constructor
  · intro h
    cases a; cases b
    simpa using h
  · rintro rfl; rfl
theorem lpair_key (p : ByteArray × ByteArray) (k : ByteArray) : (lpair p).1.sameKey (.string k.data.toList) = decide (p.1 = k) := by
  unfold lpair
  rw [Bool.eq_iff_iff, decide_eq_true_iff, ← bytes_inj]
  simp only [Lit.sameKey, beq_iff_eq]
theorem strK : Keyed Tryz.prog 9 := string_keyed Tryz.underlying9
/-- Block b is a map that holds just the entries A. -/
def MapT (w : World) (b : Nat) (A : List (ByteArray × ByteArray)) : Prop :=
  (A.map (·.1)).Nodup ∧ (∀ p ∈ A, p.1.size ≤ maxLen ∧ p.2.size ≤ maxLen) ∧ ∃ es, w.ownsMap (H := Unit) Tryz.prog 9 (plainElem Tryz.prog 9) b A.length (.map es) ∧ es.Perm (A.map lpair)
theorem MapT.lt {w : World} {b : Nat} {A : List (ByteArray × ByteArray)} (h : MapT w b A) : b < w.heap.size := by
  obtain ⟨_, _, es, ho, _⟩ := h
  exact ho.lt
theorem MapT.lift {w w' : World} {b : Nat} {A : List (ByteArray × ByteArray)} (h : MapT w b A) (hb : w'.heap[b]? = w.heap[b]?) : MapT w' b A := by
  obtain ⟨h1, h2, es, ⟨es', clock, g1, g2, g3, g4⟩, hp⟩ := h
  exact ⟨h1, h2, es, ⟨es', clock, hb.trans g1, g2, g3, g4⟩, hp⟩
theorem MapT.keep {w w' : World} {b : Nat} {A : List (ByteArray × ByteArray)} (h : MapT w b A) (hb : Below w.heap.size w w') : MapT w' b A := h.lift (hb.block b h.lt)
theorem MapT.ismap {w : World} {b : Nat} {A : List (ByteArray × ByteArray)} (h : MapT w b A) : ∃ es clock, w.heap[b]? = some (.map es clock) := by
  obtain ⟨_, _, es, ⟨es', clock, g1, _⟩, _⟩ := h
  exact ⟨es', clock, g1⟩
theorem MapT.new (w : World) : MapT (w.alloc (.map #[] 0)) w.heap.size [] :=
  ⟨List.nodup_nil, (by simp), [], World.ownsMap_made _ _ _ _, .refl _⟩
theorem owns_fit {w : World} {b n : Nat} {es : List (Lit × DataW Unit)} (h : w.ownsMap (H := Unit) Tryz.prog 9 (plainElem Tryz.prog 9) b n (.map es)) : w.ownsMap (H := Unit) Tryz.prog 9 (plainElem Tryz.prog 9) b es.length (.map es) := by
  obtain ⟨es', clock, g1, g2, g3, g4⟩ := h
  refine ⟨es', clock, g1, g2, ?_, g4⟩
  have := congrArg Maps.size g4
  simp only [Maps.size, length_sorted, List.length_map, Array.length_toList] at this
  omega
theorem delA_nodup {A : List (ByteArray × ByteArray)} {k : ByteArray} (h : (A.map (·.1)).Nodup) : ((delA A k).map (·.1)).Nodup := by
  unfold delA
  exact List.Nodup.sublist (List.Sublist.map _ List.filter_sublist) h
theorem delA_not {A : List (ByteArray × ByteArray)} {k : ByteArray} : k ∉ (delA A k).map (·.1) := by
  simp [delA]
theorem delA_mem {A : List (ByteArray × ByteArray)} {k : ByteArray} {p : ByteArray × ByteArray} : p ∈ delA A k ↔ p ∈ A ∧ p.1 ≠ k := by
  simp [delA]
theorem filter_lpair (A : List (ByteArray × ByteArray)) (k : ByteArray) : (A.map lpair).filter (fun p => !p.1.sameKey (.string k.data.toList)) = (delA A k).map lpair := by
  unfold delA
  rw [List.filter_map]
  congr 1
  apply List.filter_congr
  intro p _
  show (!(lpair p).1.sameKey _) = _
  rw [lpair_key]
theorem find_lpair {A : List (ByteArray × ByteArray)} (k : ByteArray) (hn : (A.map (·.1)).Nodup) {es : List (Lit × DataW Unit)} (hp : es.Perm (A.map lpair)) :
    es.find? (fun p => p.1.sameKey (.string k.data.toList)) = (A.find? fun p => decide (p.1 = k)).map lpair := by
  have h1 : (A.map lpair).find? (fun p => p.1.sameKey (.string k.data.toList)) = (A.find? fun p => decide (p.1 = k)).map lpair := by
    rw [List.find?_map]
    congr 1
    congr 1
    funext p
    exact lpair_key p k
  rw [← h1]
  cases he : (A.map lpair).find? (fun p => p.1.sameKey (.string k.data.toList)) with
  | none =>
    rw [List.find?_eq_none] at he ⊢
    exact fun x hx => he x (hp.mem_iff.1 hx)
  | some y =>
    have hy := List.find?_some he
    have hm := hp.mem_iff.2 (List.mem_of_find?_eq_some he)
    cases he2 : es.find? (fun p => p.1.sameKey (.string k.data.toList)) with
    | none =>
      rw [List.find?_eq_none] at he2
      exact absurd hy (he2 y hm)
    | some z =>
      have hz := List.find?_some he2
      have hzm := hp.mem_iff.1 (List.mem_of_find?_eq_some he2)
      have hym := List.mem_of_find?_eq_some he
      rw [List.mem_map] at hzm hym
      obtain ⟨pz, hpz, rfl⟩ := hzm
      obtain ⟨py, hpy, rfl⟩ := hym
      simp only [lpair_key, decide_eq_true_eq] at hy hz
      have : pz = py := by
        have hpw := List.pairwise_map.1 hn
        rcases List.mem_iff_getElem.1 hpz with ⟨i, hi, e1⟩
        rcases List.mem_iff_getElem.1 hpy with ⟨j, hj, e2⟩
        rcases Nat.lt_trichotomy i j with h | h | h
        · exact absurd (by rw [e1, e2, hz, hy]) (List.pairwise_iff_getElem.1 hpw i j hi hj h)
        · subst h; rw [← e1, ← e2]
        · exact absurd (by rw [e1, e2, hz, hy]) (List.pairwise_iff_getElem.1 hpw j i hj hi h)
      rw [this]
theorem zero_str (w : World) : (zeroValue 9).run Tryz.prog w = .ok (.string ⟨#[]⟩) w := by kernel_rfl
theorem MapT.look_ok {w : World} {b : Nat} {A : List (ByteArray × ByteArray)} (h : MapT w b A) (k : ByteArray) (hk : k.size ≤ maxLen) :
    (Instr.lookup 44 (.map (some b)) (.string k) true).run Tryz.prog w = .ok (.tuple #[.string ((getA A k).getD ⟨#[]⟩), .bool (getA A k).isSome]) w := by
  obtain ⟨hn, hs, es, ho, hp⟩ := h
  obtain ⟨v, ps, hrun, hv⟩ := ho.look_ok strK Tryz.underlying44 (zero_str w) (plainElem_string Tryz.underlying9 (s := ⟨#[]⟩) (by unfold maxLen; decide)) (keyOf_string_mk Tryz.underlying9 hk)
  have hf := find_lpair k hn hp
  obtain ⟨s, rfl, hs2, _⟩ := plainElem_string_inv Tryz.underlying9 hv
  rw [hrun]
  have hh : Maps.has (DataW.map es) (.string k.data.toList) = (getA A k).isSome := by
    rw [Maps.has_eq]
    have e0 : (es.any fun p => p.1.sameKey (.string k.data.toList)) = (es.find? fun p => p.1.sameKey (.string k.data.toList)).isSome := by rw [List.isSome_find?]
    rw [e0, hf]
    unfold getA
    cases A.find? fun p => decide (p.1 = k) <;> rfl
  rw [hh]
  have hat : s = (getA A k).getD ⟨#[]⟩ := by
    have h3 : (DataW.map es).atKey (.string k.data.toList) (.lit (.string ((⟨#[]⟩ : ByteArray).data.toList))) = .lit (.string s.data.toList) := congrArg Prod.fst hs2
    unfold DataW.atKey at h3
    simp only [hf] at h3
    unfold getA
    cases hq : A.find? fun p => decide (p.1 = k) with
    | none =>
      rw [hq] at h3
      simp only [Option.map_none] at h3
      have : (⟨#[]⟩ : ByteArray).data.toList = s.data.toList := by simpa using h3
      exact (bytes_inj.1 this).symm
    | some p =>
      rw [hq] at h3
      simp only [Option.map_some, lpair] at h3
      have : p.2.data.toList = s.data.toList := by simpa using h3
      exact (bytes_inj.1 this).symm
  rw [hat]
theorem MapT.look {w : World} {b : Nat} {A : List (ByteArray × ByteArray)} (h : MapT w b A) (k : ByteArray) (hk : k.size ≤ maxLen) :
    (Instr.lookup 44 (.map (some b)) (.string k) false).run Tryz.prog w = .ok (.string ((getA A k).getD ⟨#[]⟩)) w := by
  obtain ⟨hn, hs, es, ho, hp⟩ := h
  obtain ⟨v, ps, hrun, hv⟩ := ho.lookup strK Tryz.underlying44 (zero_str w) (plainElem_string Tryz.underlying9 (s := ⟨#[]⟩) (by unfold maxLen; decide)) (keyOf_string_mk Tryz.underlying9 hk)
  have hf := find_lpair k hn hp
  obtain ⟨s, rfl, hs2, _⟩ := plainElem_string_inv Tryz.underlying9 hv
  rw [hrun]
  have hat : s = (getA A k).getD ⟨#[]⟩ := by
    have h3 : (DataW.map es).atKey (.string k.data.toList) (.lit (.string ((⟨#[]⟩ : ByteArray).data.toList))) = .lit (.string s.data.toList) := congrArg Prod.fst hs2
    unfold DataW.atKey at h3
    simp only [hf] at h3
    unfold getA
    cases hq : A.find? fun p => decide (p.1 = k) with
    | none =>
      rw [hq] at h3
      simp only [Option.map_none] at h3
      have : (⟨#[]⟩ : ByteArray).data.toList = s.data.toList := by simpa using h3
      exact (bytes_inj.1 this).symm
    | some p =>
      rw [hq] at h3
      simp only [Option.map_some, lpair] at h3
      have : p.2.data.toList = s.data.toList := by simpa using h3
      exact (bytes_inj.1 this).symm
  rw [hat]
/-- Only the map's block has turned. -/
theorem turned_only {w w' : World} {b : Nat} (h : w.mapTurned w' b) : Only b w w' := by
  obtain ⟨es, clock, es', clock', hb, rfl⟩ := h
  exact ⟨rfl, rfl, rfl, by simp [setBlock], fun k hk => heap_setBlock_other hb _ hk⟩
theorem MapT.del {w w' : World} {b : Nat} {A : List (ByteArray × ByteArray)} (h : MapT w b A) (k : ByteArray) (es : List (Lit × DataW Unit)) (hp : es.Perm (A.map lpair))
    (ho : w'.ownsMap (H := Unit) Tryz.prog 9 (plainElem Tryz.prog 9) b A.length ((DataW.map es).del (.string k.data.toList))) : MapT w' b (delA A k) := by
  have hpp : (es.filter fun p => !p.1.sameKey (.string k.data.toList)).Perm ((delA A k).map lpair) := by
    rw [← filter_lpair]
    exact hp.filter _
  refine ⟨delA_nodup h.1, fun p hp => h.2.1 p (delA_mem.1 hp).1, _, ?_, hpp⟩
  have := owns_fit ho
  rw [show (delA A k).length = (es.filter fun p => !p.1.sameKey (.string k.data.toList)).length by rw [hpp.length_eq, List.length_map]]
  exact this
theorem MapT.put {w w' : World} {b n : Nat} {A : List (ByteArray × ByteArray)} (h : MapT w b A) (k v : ByteArray) (hk : k.size ≤ maxLen) (hv : v.size ≤ maxLen) (es : List (Lit × DataW Unit)) (hp : es.Perm (A.map lpair))
    (ho : w'.ownsMap (H := Unit) Tryz.prog 9 (plainElem Tryz.prog 9) b n ((DataW.map es).put (.string k.data.toList) (.lit (.string v.data.toList)))) : MapT w' b (putA A k v) := by
  have hpp : (DataW.insert (.string k.data.toList, .lit (.string v.data.toList)) (es.filter fun p => !p.1.sameKey (.string k.data.toList))).Perm ((putA A k v).map lpair) := by
    refine (insert_perm _ _).trans ?_
    unfold putA
    rw [List.map_cons]
    refine List.Perm.cons _ ?_
    rw [← filter_lpair]
    exact hp.filter _
  refine ⟨?_, fun p hp => ?_, _, ?_, hpp⟩
  · unfold putA
    rw [List.map_cons, List.nodup_cons]
    exact ⟨delA_not, delA_nodup h.1⟩
  · unfold putA at hp
    rcases List.mem_cons.1 hp with rfl | hp
    · exact ⟨hk, hv⟩
    · exact h.2.1 p (delA_mem.1 hp).1
  · have := owns_fit ho
    rw [show (putA A k v).length = (DataW.insert (.string k.data.toList, .lit (.string v.data.toList)) (es.filter fun p => !p.1.sameKey (.string k.data.toList))).length by rw [hpp.length_eq, List.length_map]]
    exact this

/-- delete(m, k). -/
theorem mapT_delete {w : World} {b : Nat} {A : List (ByteArray × ByteArray)} {ops : Array Oper} {rest : List Oper} {o : Oper} {a : Act} {Q : Exit → Act → World → Prop} (hg : o.guard = none) (m x : Operand)
    (hop : o.op = Op.call { callee := Callee.builtin Builtin.delete, args := #[m, x], argTypes := #[44, 9] }) (h : MapT w b A) (hm : a.eval m = .map (some b)) (k : ByteArray) (hx : a.eval x = .string k) (hk : k.size ≤ maxLen)
    (hK : ∀ w', MapT w' b (delA A k) → Only b w w' → wpList Tryz.prog ops Q rest (a.put o.dst (.tuple #[])) w') : wpList Tryz.prog ops Q (o :: rest) a w := by
  have h' := h
  obtain ⟨hn, hs, es, ho, hp⟩ := h'
  exact wpList_delete_own w hg m x _ _ hop _ strK Tryz.underlying44 _ b _ _ hm ho _ _ hx (keyOf_string_mk Tryz.underlying9 hk) fun w' h1 h2 => hK w' (h.del k es hp h1) (turned_only h2)
/-- m[k] = v. -/
theorem mapT_update {w : World} {b : Nat} {A : List (ByteArray × ByteArray)} {ops : Array Oper} {rest : List Oper} {o : Oper} {a : Act} {Q : Exit → Act → World → Prop} (hg : o.guard = none) (m x y : Operand)
    (hop : o.op = Op.mapUpdate 44 m x y) (h : MapT w b A) (hm : a.eval m = .map (some b)) (k v : ByteArray) (hx : a.eval x = .string k) (hy : a.eval y = .string v) (hk : k.size ≤ maxLen) (hv : v.size ≤ maxLen) (hl : A.length < maxLen)
    (hK : ∀ w', MapT w' b (putA A k v) → Only b w w' → wpList Tryz.prog ops Q rest (a.put o.dst undef) w') : wpList Tryz.prog ops Q (o :: rest) a w := by
  have h' := h
  obtain ⟨hn, hs, es, ho, hp⟩ := h'
  exact wpList_mapUpdate_in w hg m x y _ hop _ _ strK Tryz.underlying44 _ b _ _ hm ho hl _ _ _ hx hy (keyOf_string_mk Tryz.underlying9 hk) _ [] (plainElem_string Tryz.underlying9 hv) fun w' h1 h2 => hK w' (h.put k v hk hv es hp h1) (turned_only h2)
theorem run_makeMap_t (w : World) : (Instr.makeMap 44 none).run Tryz.prog w = .ok (.map (some w.heap.size)) (w.alloc (.map #[] 0)) := by
  unfold Instr.makeMap
  rfl
end Go.Proofs.YtilninaminaadaaGreatDoor
