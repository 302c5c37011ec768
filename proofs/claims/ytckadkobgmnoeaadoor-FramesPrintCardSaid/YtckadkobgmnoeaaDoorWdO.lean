/- Bytes and words that the call gathers by append; a slice that reads as words. -/
import Derived.Test.YtckadkobgmnoeaaDoorWdP
import Derived.Test.YtckadkobgmnoeaaDoorShelf
import Derived.OwnWalk
import Derived.Lib.BufferRead
namespace Go.Proofs.YtckadkobgmnoeaaDoor
open Go.RowKit

theorem below_al {w : World} {ob : Obj} : Below w.heap.size w (w.alloc ob) := (Below.refl _ _).alloc (Nat.le_refl _) ob
def byV (c : UInt8) : Value := .int .u8 (c.toNat : Int)
def strV (l : List UInt8) : Value := .string ⟨l.toArray⟩
theorem infoU : (Tryd.prog.info? 5).map (fun i => (i.zero, i.size, i.bytes)) = some (some (.int .u8 0), 1, 1) := by kernel_rfl
theorem infoS : (Tryd.prog.info? 9).map (fun i => (i.zero, i.size, i.bytes)) = some (some (.string ⟨#[]⟩), 1, 16) := by kernel_rfl
/-- v is a slice of the call's own that reads as the values L, a cell each. -/
def OutV (B : Nat) (w : World) (T : TypeId) (v : Value) (L : List Value) : Prop := w.ownsRow B T 1 v L.length L
theorem OutV.below {B : Nat} {w w' : World} {T : TypeId} {v : Value} {L : List Value} (h : OutV B w T v L) (hb : Below w.heap.size w w') : OutV B w' T v L := by
  refine ⟨h.1, ?_⟩
  rcases h.2 with h0 | ⟨g, cap, cur, e1, e2, e3, e4⟩
  · exact .inl h0
  · exact .inr ⟨g, cap, cur, e1, e2, (hb.block g (Array.getElem?_eq_some_iff.1 e3).1).trans e3, e4⟩
theorem OutV.put {w : World} {B b o : Nat} {T : TypeId} {v u : Value} {L : List Value} (h : OutV B w T v L) (hb : b < B) : OutV B (w.setCell ⟨b, o, none⟩ u) T v L := by
  refine ⟨h.1, ?_⟩
  rcases h.2 with h0 | ⟨g, cap, cur, e1, e2, e3, e4⟩
  · exact .inl h0
  · exact .inr ⟨g, cap, cur, e1, e2, by rw [Below.heap_setCell _ _ _ _ (by dsimp only; omega)]; exact e3, e4⟩
theorem OutV.nil (B : Nat) (w : World) (T : TypeId) : OutV B w T (.slice none 0 0) [] := World.ownsRow_nil _ _ _ _
theorem OutV.form {B : Nat} {w : World} {T : TypeId} {v : Value} {L : List Value} (h : OutV B w T v L) : ∃ a c, v = .slice a L.length c := by
  rcases h.2 with ⟨h0, h1⟩ | ⟨g, cap, cur, e1, _⟩
  · exact ⟨none, 0, by rw [h0, h1]⟩
  · exact ⟨_, cap, e1⟩
theorem OutV.cells {B : Nat} {w : World} {T : TypeId} {v : Value} {L : List Value} (h : OutV B w T v L) : (L = [] ∧ v = .slice none 0 0) ∨ ∃ g c, v = .slice (some ⟨g, 0, none⟩) L.length c ∧ B ≤ g ∧ g < w.heap.size ∧ ∀ j, True → ∀ u, L[j]? = some u → w.cell? ⟨g, j, none⟩ = some u := by
  rcases h.2 with ⟨h0, h1⟩ | ⟨g, cap, cur, e1, e2, e3, e4, e5, e6, e7⟩
  · exact .inl ⟨List.length_eq_zero_iff.1 h1, h0⟩
  · refine .inr ⟨g, cap, e1, e2, (Array.getElem?_eq_some_iff.1 e3).1, fun j _ u hu => ?_⟩
    rw [Lib.cell_of_heap e3]
    rw [← e7, List.getElem?_take] at hu
    split at hu
    · simpa using hu
    · cases hu
theorem ov_append {B : Nat} {w : World} {T TS : TypeId} {z : Value} {bytes : Nat} (hinfo : (Tryd.prog.info? T).map (fun i => (i.zero, i.size, i.bytes)) = some (some z, 1, bytes)) (hu : Tryd.prog.underlying TS = some (.slice T)) (hz1 : z.cells.size = 1) {L : List Value} {x v : Value} {ops : Array Oper} {rest : List Oper} {o : Oper} {a : Act} {Q : Exit → Act → World → Prop} (hgd : o.guard = none) (s y : Operand)
    (ho : o.op = .call { callee := .builtin .append, args := #[s, y], argTypes := #[TS, TS] }) (hs : a.eval s = v) (g c : Nat) (hx : a.eval y = .slice (some ⟨g, 0, none⟩) 1 c) (hm : OutV B w T v L)
    (hc : Bx w g T #[x]) (hx1 : x.oneCell' = true) (hl : L.length + 1 ≤ 9223372036854775807) (hl2 : (L.length + 1) * bytes ≤ 140737488355328) (hB : B ≤ w.heap.size)
    (h : ∀ v' w', OutV B w' T v' (L ++ [x]) → (∀ B0 W0, B0 ≤ B → Below B0 W0 w → Below B0 W0 w') → wpList Tryd.prog ops Q rest (a.put o.dst v') w') :
    wpList Tryd.prog ops Q (o :: rest) a w := by
  obtain ⟨i0, hi, hz0, hzz, hz2⟩ := info_parts hinfo
  have hml : maxLen = 9223372036854775807 := rfl
  refine wpList_append_own w hgd s y TS ho B T i0 z 1 bytes hu hi hz0 hzz hz2 hz1 (by decide) v L.length L hs hm ⟨g, 0, none⟩ 1 c [x] hx rfl ?_ ?_ (by omega) hl2 hB ?_
  · intro j u hj
    have := hc.all.1 j
    rw [show ((⟨g, 0, none⟩ : Addr).add j) = ⟨g, j, none⟩ by simp [Addr.add]; intro e; exact e.symm, this]
    simpa using hj
  · intro u hu
    simp at hu
    subst hu
    exact hx1
  · intro v' w' hown hgrow _
    refine h v' w' ?_ (fun B0 W0 hB0 hb => ?_)
    · unfold OutV
      rw [List.length_append]
      exact hown
    · refine hb.grown hgrow (by omega) (fun k hk => ?_)
      rcases hm.2 with ⟨h0, _⟩ | ⟨g1, cap1, cur, e1, e2, e3, _⟩
      · rw [h0] at hk; cases hk
      · rw [e1] at hk
        simp only [Value.ownBlock, Option.some.injEq] at hk
        omega
/-- The bytes gathered, as a string. -/
theorem OutV.str {B : Nat} {w : World} {v : Value} {l : List UInt8} (h : OutV B w 5 v (l.map byV)) : (convert 42 9 v).run Tryd.prog w = .ok (strV l) w := by
  rcases h.cells with ⟨h0, rfl⟩ | ⟨g, c, rfl, _, _, hc⟩
  · have : l = [] := by simpa using h0
    subst this
    exact Lib.run_convert_nil_bytes w 42 9 5 0 Tryd.underlying42 Tryd.underlying5 Tryd.underlying9
  · rw [List.length_map]
    refine run_convert_bytes_back w 42 9 5 ⟨g, 0, none⟩ c l Tryd.underlying42 Tryd.underlying5 Tryd.underlying9 fun j hj => ?_
    rw [show ((⟨g, 0, none⟩ : Addr).add j) = ⟨g, j, none⟩ by simp [Addr.add]; intro e; exact e.symm]
    exact hc j trivial _ (by rw [List.getElem?_map, List.getElem?_eq_getElem hj]; rfl)
/-- A slice that reads as the words. -/
def SlS (w : World) (v : Value) (L : List (List UInt8)) : Prop :=
  (L = [] ∧ ∃ a c, v = .slice a 0 c) ∨ ∃ b o c, v = .slice (some ⟨b, o, none⟩) L.length c ∧ b < w.heap.size ∧ ∀ j u, L[j]? = some u → w.cell? ⟨b, o + j, none⟩ = some (strV u)
theorem SlS.below {w w' : World} {v : Value} {L : List (List UInt8)} (h : SlS w v L) (hb : Below w.heap.size w w') : SlS w' v L := by
  rcases h with h0 | ⟨b, o, c, e1, e2, e3⟩
  · exact .inl h0
  · exact .inr ⟨b, o, c, e1, Nat.lt_of_lt_of_le e2 hb.size, fun j u hu => (hb.cell (p := ⟨b, o + j, none⟩) e2).trans (e3 j u hu)⟩
theorem OutV.slS {B : Nat} {w : World} {v : Value} {L : List (List UInt8)} (h : OutV B w 9 v (L.map strV)) : SlS w v L := by
  rcases h.cells with ⟨h0, rfl⟩ | ⟨g, c, rfl, _, h2, hc⟩
  · exact .inl ⟨by simpa using h0, none, 0, rfl⟩
  · refine .inr ⟨g, 0, c, by rw [List.length_map], h2, fun j u hu => ?_⟩
    rw [Nat.zero_add]
    exact hc j trivial _ (by rw [List.getElem?_map, hu]; rfl)
theorem SlS.form {w : World} {v : Value} {L : List (List UInt8)} (h : SlS w v L) : ∃ a c, v = .slice a L.length c := by
  rcases h with ⟨h0, a, c, e⟩ | ⟨b, o, c, e1, _⟩
  · exact ⟨a, c, by rw [h0]; exact e⟩
  · exact ⟨_, c, e1⟩
theorem bytes_list (s : ByteArray) : (⟨s.data.toList.toArray⟩ : ByteArray) = s := by
  cases s; simp
theorem take_one {l : List UInt8} {n : Nat} (h : n < l.length) : l.take (n + 1) = l.take n ++ [l[n]] := by
  rw [List.take_add_one, List.getElem?_eq_getElem h]; rfl
theorem strV_inj {a b : List UInt8} : strV a = strV b ↔ a = b := by
  constructor
  · intro h
    simpa [strV] using h
  · rintro rfl; rfl
end Go.Proofs.YtckadkobgmnoeaaDoor
