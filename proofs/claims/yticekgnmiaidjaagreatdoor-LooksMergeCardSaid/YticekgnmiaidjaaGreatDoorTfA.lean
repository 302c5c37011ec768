/- Bytes, a builder's text, what is read of Go's library's variables. -/
import Derived.Test.YticekgnmiaidjaaGreatDoorBld
import Derived.Lib.ItoaLen
import Derived.Lib.AppendIntMem
namespace Go.Proofs.YticekgnmiaidjaaGreatDoor
open Go.RowKit

def ofL (l : List UInt8) : ByteArray := ⟨l.toArray⟩
theorem ofL_list (l : List UInt8) : (ofL l).data.toList = l := by simp [ofL]
theorem ofL_size (l : List UInt8) : (ofL l).size = l.length := by rw [Lib.size_eq, ofL_list]
theorem ofL_of {s : ByteArray} {l : List UInt8} (h : s.data.toList = l) : s = ofL l := by
  apply ByteArray.ext
  apply Array.toList_inj.1
  rw [h, ofL_list]
def BT (B : Nat) (l : List UInt8) (w : World) : Prop := Lib.IsBuilder 159 5 B B (Lib.byteCells l) w
theorem BT.keep {B : Nat} {l : List UInt8} {w w' : World} (h : BT B l w) (hb : Below w.heap.size w w') : BT B l w' := by
  have key : ∀ p, Lib.BuilderAt 159 5 B B p (Lib.byteCells l) w → Lib.BuilderAt 159 5 B B p (Lib.byteCells l) w' := by
    rintro p ⟨h1, v, h2, h3, h4⟩
    refine ⟨h1, v, ?_, ?_, h4⟩
    · rw [hb.block B (Array.getElem?_eq_some_iff.1 h2).1]; exact h2
    · refine ⟨h3.1, ?_⟩
      rcases h3.2 with h0 | ⟨g, cap, cur, e1, e2, e3, e4⟩
      · exact .inl h0
      · exact .inr ⟨g, cap, cur, e1, e2, (hb.block g (Array.getElem?_eq_some_iff.1 e3).1).trans e3, e4⟩
  exact h.imp (key _) (key _)
theorem BT.lt {B : Nat} {l : List UInt8} {w : World} (h : BT B l w) : B < w.heap.size := by
  rcases h with ⟨_, v, h2, _⟩ | ⟨_, v, h2, _⟩ <;> exact (Array.getElem?_eq_some_iff.1 h2).1
/-- Writing to a builder leaves every block of another type. -/
def Apart (b : Nat) (w w' : World) : Prop := ∀ (g : Nat) (T : TypeId) (cs : Array Value), T ≠ 5 → g ≠ b → Bx w g T cs → Bx w' g T cs
theorem bld_checkX (B b : Nat) (bs : List Value) (w : World) (h : Lib.IsBuilder 159 5 B b bs w) :
    Calls Tryz.prog 156 #[.pointer (some ⟨b, 0, none⟩)] w fun e w' => e = .returned (.tuple #[]) ∧ (Lib.BuilderAt 159 5 B b (.pointer (some ⟨b, 0, none⟩)) bs w' ∧ Below B w w') ∧ Apart b w w' := by
  rcases h with h | h
  · refine (bld_check_fresh b w h.cell0 h.shape h.frozen0).mono ?_
    rintro e w' ⟨rfl, rfl⟩
    exact ⟨rfl, ⟨h.used _, (Below.refl B w).setCell (p := ⟨b, 0, none⟩) h.1 _⟩, fun g T cs _ hg x => Bx.other x _ _ (fun e => hg e)⟩
  · refine (bld_check_used b w h.cell0).mono ?_
    rintro e w' ⟨rfl, rfl⟩
    exact ⟨rfl, ⟨h, Below.refl B _⟩, fun _ _ _ _ _ x => x⟩
set_option maxRecDepth 100000 in
set_option maxHeartbeats 2000000 in
theorem bld_writeX (B b : Nat) (bs : List Value) (s : ByteArray) (w : World) (h : Lib.IsBuilder 159 5 B b bs w) (hlen : bs.length + s.size ≤ 140737488355328) (hBw : B ≤ w.heap.size) :
    Calls Tryz.prog 118 #[.pointer (some ⟨b, 0, none⟩), .string s] w fun e w' => e = .returned (.tuple #[.int .i64 s.size, .nilIface]) ∧ (Lib.BuilderAt 159 5 B b (.pointer (some ⟨b, 0, none⟩)) (bs ++ Lib.strCells s) w' ∧ Below B w w') ∧ Apart b w w' := by
  obtain ⟨i0, hi, hz0, hz1, hz2⟩ := info_parts infoU8
  go_enter Tryz.func118, Tryz.ntmps118
  go_wp2_with fail
  refine (bld_checkX B b bs _ h).mono ?_
  rintro e w1 ⟨rfl, ⟨h1, hb1⟩, ha1⟩
  obtain ⟨hB, v, hbk, hown, hne⟩ := h1
  have c0 : w1.cell? ⟨b, 0, none⟩ = some (.pointer (some ⟨b, 0, none⟩)) := by rw [Lib.cell_of_heap hbk]; rfl
  have c1 : w1.cell? ⟨b, 1, none⟩ = some v := by rw [Lib.cell_of_heap hbk]; rfl
  have HA1 := Lib.hid ha1
  clear ha1
  go_wp2_with (at_builtin; refine Lib.wpList_append_own_string _ rfl _ _ 157 9 rfl B 5 i0 Tryz.underlying157 Tryz.underlying9 hi hz0 hz1 hz2 _ _ _ rfl hown s rfl ?c3 ?c4 ?c5 ?_)
  case c3 => unfold maxLen; omega
  case c4 => omega
  case c5 => have := hb1.size; omega
  intro v' w2 hown' hgrow _
  have hlt : b < w1.heap.size := (Array.getElem?_eq_some_iff.1 hbk).1
  have hb2 : w2.heap[b]? = some (.cells #[.pointer (some ⟨b, 0, none⟩), v] 159 (0, 0)) := by
    rw [hgrow.block b hlt (fun e => hne e.symm)]
    exact hbk
  have d0 : w2.cell? ⟨b, 0, none⟩ = some (.pointer (some ⟨b, 0, none⟩)) := by rw [Lib.cell_of_heap hb2]; rfl
  have d1 : w2.cell? ⟨b, 1, none⟩ = some v := by rw [Lib.cell_of_heap hb2]; rfl
  have f1 : w2.frozen? ⟨b, 1, none⟩ = false := Lib.frozen_of_heap hb2 1
  obtain ⟨ao, n', cap, rfl⟩ : ∃ ao n' cap, v' = .slice ao n' cap := by
    rcases hown'.2 with ⟨hv, _⟩ | ⟨g, cap, cur, hv, _⟩
    · exact ⟨_, _, _, hv⟩
    · exact ⟨_, _, _, hv⟩
  go_wp2
  go_ret2
  refine ⟨rfl, ⟨?_, ?_⟩, ?_⟩
  · exact Lib.BuilderAt.put (T := 159) (e := 5) hB hb2 (bs' := bs ++ Lib.strCells s) (by simpa [Lib.strCells_length] using hown') (by decide)
  · exact (hb1.grown hgrow (by have := hb1.size; omega) (fun k hk => (hown.lt k hk).1)).setCell (p := ⟨b, 1, none⟩) hB _
  · intro g T cs hT hg x
    have x1 := HA1.out g T cs hT hg x
    have x2 : Bx w2 g T cs := by
      refine (hgrow.block g x1.lt ?_).trans x1
      intro e
      rcases hown.2 with ⟨e0, _⟩ | ⟨k, cap', cur', e0, _, hk, _⟩
      · rw [e0] at e; cases e
      · rw [e0] at e
        simp only [Value.ownBlock, Option.some.injEq] at e
        subst e
        have := x1.symm.trans hk
        injection this with this
        injection this with _ e2 _
        exact hT e2
    exact Bx.other x2 _ _ (fun e => hg e)
end Go.Proofs.YticekgnmiaidjaaGreatDoor
