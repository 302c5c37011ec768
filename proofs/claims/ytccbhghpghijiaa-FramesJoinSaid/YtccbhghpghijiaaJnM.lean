/- A map from points to pixels: how it is read and written. -/
import Derived.Test.YtccbhghpghijiaaMem
import Derived.MapKept
namespace Go.Proofs.Ytccbhghpghijiaa
open Go.RowKit

def ptV (p : Int × Int) : Value := .agg #[.int .i64 p.1, .int .i64 p.2]
/-- The entries, as the map has them: in the order in which they came. -/
def mkE : Nat → List ((Int × Int) × Value) → List MapEntry
  | _, [] => []
  | n, (p, v) :: E => { key := ptV p, val := v, born := n } :: mkE (n + 1) E
theorem mkE_append (n : Nat) (E : List ((Int × Int) × Value)) (p : Int × Int) (v : Value) : mkE n (E ++ [(p, v)]) = mkE n E ++ [{ key := ptV p, val := v, born := n + E.length }] := by
  induction E generalizing n with
  | nil => rfl
  | cons a E ih =>
    obtain ⟨q, u⟩ := a
    rw [List.cons_append, mkE, mkE, ih, List.cons_append, List.length_cons]
    congr 4
    omega
theorem mkE_length (n : Nat) (E : List ((Int × Int) × Value)) : (mkE n E).length = E.length := by
  induction E generalizing n with
  | nil => rfl
  | cons a E ih => obtain ⟨q, u⟩ := a; rw [mkE, List.length_cons, ih, List.length_cons]
/-- What stands at a point. -/
def findE (E : List ((Int × Int) × Value)) (p : Int × Int) : Option Value := (E.find? fun e => e.1 == p).map (·.2)
theorem findE_cons (a : (Int × Int) × Value) (E : List ((Int × Int) × Value)) (p : Int × Int) : findE (a :: E) p = if a.1 = p then some a.2 else findE E p := by
  unfold findE
  rw [List.find?_cons]
  by_cases h : a.1 = p
  · rw [if_pos h, show (a.1 == p) = true by simpa using h]; rfl
  · rw [if_neg h, show (a.1 == p) = false by simpa using h]
theorem findE_append (E : List ((Int × Int) × Value)) (p q : Int × Int) (v : Value) : findE (E ++ [(p, v)]) q = (findE E q).or (if p = q then some v else none) := by
  induction E with
  | nil => rw [List.nil_append, findE_cons]; rfl
  | cons a E ih =>
    rw [List.cons_append, findE_cons, findE_cons, ih]
    split <;> rfl
def zeroPix : Value := .agg #[.float .f32 0, .float .f32 0, .float .f32 0, .float .f32 0]
/-- Block r is the map with these entries. -/
def MapB (w : World) (r : Nat) (E : List ((Int × Int) × Value)) : Prop := w.heap[r]? = some (.map (mkE 0 E).toArray E.length)
theorem MapB.lt {w : World} {r : Nat} {E : List ((Int × Int) × Value)} (h : MapB w r E) : r < w.heap.size := (Array.getElem?_eq_some_iff.1 h).1
theorem MapB.keep {w w' : World} {r : Nat} {E : List ((Int × Int) × Value)} (h : MapB w r E) (hb : Below w.heap.size w w') : MapB w' r E := (hb.block r h.lt).trans h
theorem MapB.put {w : World} {r b i : Nat} {E : List ((Int × Int) × Value)} {u : Value} (h : MapB w r E) (hne : r ≠ b) : MapB (w.setCell ⟨b, i, none⟩ u) r E := by
  unfold MapB
  rw [Below.heap_setCell _ _ _ _ (by dsimp only; omega)]
  exact h
theorem MapB.new (w : World) : MapB (w.alloc (.map #[] 0)) w.heap.size [] := MapKept.heap_alloc w _ |>.1
def setMap (w : World) (r : Nat) (E : List ((Int × Int) × Value)) : World := { w with heap := w.heap.setIfInBounds r (.map (mkE 0 E).toArray E.length) }
theorem MapB.set {w : World} {r : Nat} {E : List ((Int × Int) × Value)} (h : MapB w r E) (E' : List ((Int × Int) × Value)) : MapB (setMap w r E') r E' := by
  unfold MapB setMap
  exact Array.getElem?_setIfInBounds_self_of_lt h.lt
theorem Bx.setMap {w : World} {r b : Nat} {T : TypeId} {cs : Array Value} {E : List ((Int × Int) × Value)} (h : Bx w b T cs) (hne : b ≠ r) : Bx (setMap w r E) b T cs := by
  unfold Bx Go.Proofs.Ytccbhghpghijiaa.setMap
  rw [Array.getElem?_setIfInBounds_ne (by omega)]
  exact h
theorem below_setMap {W w : World} {B r : Nat} {E : List ((Int × Int) × Value)} (h : Below B W w) (hr : B ≤ r) : Below B W (setMap w r E) :=
  h.trans ⟨rfl, rfl, rfl, by simp [setMap], fun b hb => by unfold setMap; rw [Array.getElem?_setIfInBounds_ne (by omega)]⟩

theorem run_equal_pt (p q : Int × Int) (w : World) : (Op.equal 55 (ptV p) (ptV q)).run Try.prog w = .ok (decide (p = q)) w := by
  have h : (Op.equal 55 (ptV p) (ptV q)).run Try.prog w = .ok (decide (p.1 = q.1) && decide (p.2 = q.2)) w := by
    show (Op.equalIn 10000 55 (.agg #[.int .i64 p.1, .int .i64 p.2]) (.agg #[.int .i64 q.1, .int .i64 q.2])).run Try.prog w = _
    unfold Op.equalIn
    simp [go_sem]
    by_cases c1 : p.1 = q.1
    · by_cases c2 : p.2 = q.2
      · simp [c1, c2]
      · simp [c1, c2]
    · simp [c1]
  rw [h]
  congr 1
  rw [Bool.eq_iff_iff]
  simp [Prod.ext_iff]
theorem run_findAsking_pt (p : Int × Int) (w : World) : ∀ (E : List ((Int × Int) × Value)) (n i : Nat), ∃ r, (Instr.findAsking 55 (ptV p) (mkE n E) i).run Try.prog w = .ok r w ∧ r.map (·.2) = findE E p := by
  intro E
  induction E with
  | nil => intro n i; exact ⟨none, by simp [mkE, Instr.findAsking], rfl⟩
  | cons a E ih =>
    intro n i
    obtain ⟨q, u⟩ := a
    have he := run_equal_pt p q w
    rw [mkE, findE_cons]
    by_cases h : q = p
    · rw [if_pos h, decide_eq_true h.symm] at *
      exact ⟨some (i, u), by simp [Instr.findAsking, he], rfl⟩
    · rw [if_neg h]
      rw [decide_eq_false (fun e => h e.symm)] at he
      obtain ⟨r, h1, h2⟩ := ih (n + 1) (i + 1)
      exact ⟨r, by simp [Instr.findAsking, he, h1], h2⟩
theorem run_findKey_pt (p : Int × Int) (w : World) (E : List ((Int × Int) × Value)) : ∃ r, (Instr.findKey 55 (ptV p) (mkE 0 E)).run Try.prog w = .ok r w ∧ r.map (·.2) = findE E p := by
  cases E with
  | nil => exact ⟨none, by simp [mkE, Instr.findKey, Instr.findNow, go_sem], rfl⟩
  | cons a E =>
    obtain ⟨r, h1, h2⟩ := run_findAsking_pt p w (a :: E) 0 0
    refine ⟨r, ?_, h2⟩
    rw [← h1]
    obtain ⟨q, u⟩ := a
    unfold ptV
    simp [mkE, Instr.findKey, Instr.findNow, Instr.sameNow, go_sem, ptV]
theorem run_checkKey_pt (e : Bool) (p : Int × Int) (w : World) : (Instr.checkKey e 10000 55 (ptV p)).run Try.prog w = .ok () w := by
  unfold ptV
  kernel_rfl

theorem run_lookup_pt {w : World} {r : Nat} {E : List ((Int × Int) × Value)} (h : MapB w r E) (p : Int × Int) :
    (Instr.lookup 50 (.map (some r)) (ptV p) true).run Try.prog w = .ok (.tuple #[(findE E p).getD zeroPix, .bool (findE E p).isSome]) w := by
  obtain ⟨x, h1, h2⟩ := run_findKey_pt p w E
  have hz : (zeroValue 52).run Try.prog w = .ok zeroPix w := by kernel_rfl
  unfold Instr.lookup
  cases x with
  | none =>
    rw [← h2]
    simp [run_underlying Try.underlying50, MapKept.run_getObj_map h, run_checkKey_pt, h1, hz]
  | some y =>
    rw [← h2]
    simp [run_underlying Try.underlying50, MapKept.run_getObj_map h, run_checkKey_pt, h1, hz]
theorem run_lookup_pt1 {w : World} {r : Nat} {E : List ((Int × Int) × Value)} (h : MapB w r E) (p : Int × Int) :
    (Instr.lookup 50 (.map (some r)) (ptV p) false).run Try.prog w = .ok ((findE E p).getD zeroPix) w := by
  obtain ⟨x, h1, h2⟩ := run_findKey_pt p w E
  have hz : (zeroValue 52).run Try.prog w = .ok zeroPix w := by kernel_rfl
  unfold Instr.lookup
  cases x with
  | none =>
    rw [← h2]
    simp [run_underlying Try.underlying50, MapKept.run_getObj_map h, run_checkKey_pt, h1, hz]
  | some y =>
    rw [← h2]
    simp [run_underlying Try.underlying50, MapKept.run_getObj_map h, run_checkKey_pt, h1, hz]
theorem run_mapUpdate_pt {w : World} {r : Nat} {E : List ((Int × Int) × Value)} (h : MapB w r E) (p : Int × Int) (v : Value) (hn : findE E p = none) :
    (Instr.mapUpdate 50 (.map (some r)) (ptV p) v).run Try.prog w = .ok () (setMap w r (E ++ [(p, v)])) := by
  obtain ⟨x, h1, h2⟩ := run_findKey_pt p w E
  rw [hn] at h2
  have hx : x = none := by cases x; rfl; simp at h2
  subst hx
  unfold Instr.mapUpdate
  have hs : setMap w r (E ++ [(p, v)]) = { w with heap := w.heap.setIfInBounds r (.map ((mkE 0 E).toArray.push { key := ptV p, val := v, born := E.length }) (E.length + 1)) } := by
    unfold setMap
    rw [mkE_append, List.length_append, Nat.zero_add]
    simp
  rw [hs]
  simp [run_underlying Try.underlying50, MapKept.run_getObj_map h, run_checkKey_pt, h1, MapKept.run_setObj_map _ h]
theorem run_makeMap_pt (w : World) : (Instr.makeMap 50 none).run Try.prog w = .ok (.map (some w.heap.size)) (w.alloc (.map #[] 0)) := by
  unfold Instr.makeMap
  rfl
theorem run_mapLen_pt {w : World} {r : Nat} {E : List ((Int × Int) × Value)} (h : MapB w r E) : (Builtin.len_ #[50] 3 #[.map (some r)]).run Try.prog w = .ok (.int .i64 (E.length : Int)) w := by
  unfold Builtin.len_
  simp [run_underlying Try.underlying50, MapKept.run_getObj_map h, mkE_length, goInt]
end Go.Proofs.Ytccbhghpghijiaa
