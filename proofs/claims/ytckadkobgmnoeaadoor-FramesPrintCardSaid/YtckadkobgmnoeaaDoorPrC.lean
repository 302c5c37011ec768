/- A builder's text; the header's numbers. -/
import Derived.Test.YtckadkobgmnoeaaDoorPrB
import Derived.Test.YtckadkobgmnoeaaDoorBld
import Derived.Lib.ItoaLen
namespace Go.Proofs.YtckadkobgmnoeaaDoor
open Go.RowKit

def BT (B : Nat) (l : List UInt8) (w : World) : Prop := Lib.IsBuilder 44 5 B B (Lib.byteCells l) w
theorem BT.keep {B : Nat} {l : List UInt8} {w w' : World} (h : BT B l w) (hb : Below w.heap.size w w') : BT B l w' := by
  have key : ∀ p, Lib.BuilderAt 44 5 B B p (Lib.byteCells l) w → Lib.BuilderAt 44 5 B B p (Lib.byteCells l) w' := by
    rintro p ⟨h1, v, h2, h3, h4⟩
    refine ⟨h1, v, ?_, ?_, h4⟩
    · rw [hb.block B (Array.getElem?_eq_some_iff.1 h2).1]; exact h2
    · refine ⟨h3.1, ?_⟩
      rcases h3.2 with h0 | ⟨g, cap, cur, e1, e2, e3, e4⟩
      · exact .inl h0
      · exact .inr ⟨g, cap, cur, e1, e2, (hb.block g (Array.getElem?_eq_some_iff.1 e3).1).trans e3, e4⟩
  exact h.imp (key _) (key _)
theorem BT.lt {B : Nat} {l : List UInt8} {w : World} (h : BT B l w) : B < w.heap.size := by
  rcases h with ⟨_, v, h2, _⟩ | ⟨_, v, h2, _⟩ <;> exact (Array.getElem?_eq_some_iff.1 h2).1
theorem bt_write (B : Nat) (l s : List UInt8) (w : World) (h : BT B l w) (hl : l.length + s.length ≤ 1000000) : Calls Tryd.prog 13 #[.pointer (some ⟨B, 0, none⟩), .string (ofL s)] w fun e w' => (∃ n, e = .returned (.tuple #[.int .i64 n, .nilIface])) ∧ BT B (l ++ s) w' ∧ Below B w w' := by
  refine (bld_write B B _ (ofL s) w h (by rw [Lib.byteCells_length, ofL_size]; omega) (Nat.le_of_lt h.lt)).mono ?_
  rintro e w' ⟨rfl, h2, hb⟩
  refine ⟨⟨_, rfl⟩, .inr ?_, hb⟩
  rw [Lib.strCells_eq, ofL_list, ← Lib.byteCells_append] at h2
  exact h2

theorem bt_write_at (B : Nat) (l s : List UInt8) (S : ByteArray) (w : World) (hS : S = ofL s) (h : BT B l w) (hl : l.length + s.length ≤ 1000000) : Calls Tryd.prog 13 #[.pointer (some ⟨B, 0, none⟩), .string S] w fun e w' => (∃ n, e = .returned (.tuple #[.int .i64 n, .nilIface])) ∧ BT B (l ++ s) w' ∧ Below B w w' := by
  subst hS; exact bt_write B l s w h hl

set_option maxRecDepth 100000 in
set_option maxHeartbeats 2000000 in
theorem bt_byte (B : Nat) (l : List UInt8) (c : UInt8) (x : Int) (hx : x = (c.toNat : Int)) (w : World) (h : BT B l w) (hl : l.length + 1 ≤ 1000000) : Calls Tryd.prog 18 #[.pointer (some ⟨B, 0, none⟩), .int .u8 x] w fun e w' => e = .returned .nilIface ∧ BT B (l ++ [c]) w' ∧ Below B w w' := by
  subst hx
  obtain ⟨i0, hi, hz0, hz1, hz2⟩ := info_parts infoU8
  have hBw := h.lt
  have hlb : (Lib.byteCells l).length + 1 ≤ 1000000 := by rw [Lib.byteCells_length]; exact hl
  go_enter Tryd.func18, Tryd.ntmps18
  go_wp2_with fail
  refine (bld_check B B (Lib.byteCells l) _ h).mono ?_
  rintro e w1 ⟨rfl, h1, hb1⟩
  obtain ⟨bs, hbs⟩ : ∃ bs, Lib.byteCells l = bs := ⟨_, rfl⟩
  rw [hbs] at h1 hlb
  obtain ⟨hB, v, hbk, hown, hne⟩ := h1
  have c0 : w1.cell? ⟨B, 0, none⟩ = some (.pointer (some ⟨B, 0, none⟩)) := by rw [Lib.cell_of_heap hbk]; rfl
  have c1 : w1.cell? ⟨B, 1, none⟩ = some v := by rw [Lib.cell_of_heap hbk]; rfl
  have hlt : B < w1.heap.size := (Array.getElem?_eq_some_iff.1 hbk).1
  have hxa : Bx (w1.alloc (.cells #[.int .u8 (c.toNat : Int)] 5)) w1.heap.size 5 #[.int .u8 (c.toNat : Int)] := Bx.new _ _ _
  have hbk2 : (w1.alloc (.cells #[.int .u8 (c.toNat : Int)] 5)).heap[B]? = some (.cells #[.pointer (some ⟨B, 0, none⟩), v] 44 (0, 0)) := (below_al.block B hlt).trans hbk
  have hown2 : (w1.alloc (.cells #[.int .u8 (c.toNat : Int)] 5)).ownsRow B 5 1 v bs.length bs := OutV.below (L := bs) hown below_al
  have HBS := Lib.hid hbs
  clear hbs
  go_wp2_with (at_builtin; refine wpList_append_own _ rfl _ _ 42 rfl B 5 i0 (.int .u8 0) 1 1 Tryd.underlying42 hi hz0 hz1 hz2 rfl (by decide) _ bs.length bs rfl hown2 ⟨w1.heap.size, 0, none⟩ 1 1 [.int .u8 (c.toNat : Int)] rfl rfl ?c1 ?c2 ?c3 ?c4 ?c5 ?_)
  case c1 =>
    intro j u hj
    rw [addr_addN, Nat.zero_add, hxa.all.1 j]
    simpa using hj
  case c2 => intro u hu; simp at hu; subst hu; rfl
  case c3 => unfold maxLen; omega
  case c4 => omega
  case c5 => exact Nat.le_trans (Nat.le_of_lt hlt) below_al.size
  intro v' w2 hown' hgrow _
  have hb2 : w2.heap[B]? = some (.cells #[.pointer (some ⟨B, 0, none⟩), v] 44 (0, 0)) := by
    rw [hgrow.block B (Array.getElem?_eq_some_iff.1 hbk2).1 (fun e => hne e.symm)]
    exact hbk2
  have d0 : w2.cell? ⟨B, 0, none⟩ = some (.pointer (some ⟨B, 0, none⟩)) := by rw [Lib.cell_of_heap hb2]; rfl
  have d1 : w2.cell? ⟨B, 1, none⟩ = some v := by rw [Lib.cell_of_heap hb2]; rfl
  have f1 : w2.frozen? ⟨B, 1, none⟩ = false := Lib.frozen_of_heap hb2 1
  obtain ⟨ao, n', cap, rfl⟩ : ∃ ao n' cap, v' = .slice ao n' cap := by
    rcases hown'.2 with ⟨hv, _⟩ | ⟨g, cap, cur, hv, _⟩
    · exact ⟨_, _, _, hv⟩
    · exact ⟨_, _, _, hv⟩
  go_wp2_with fail
  go_ret
  refine ⟨rfl, .inr ?_, ?_⟩
  · have := Lib.BuilderAt.put (T := 44) (e := 5) hB hb2 (bs' := bs ++ [.int .u8 (c.toNat : Int)]) (by rw [List.length_append]; exact hown') (by decide)
    rw [Lib.byteCells_append, HBS.out]
    exact this
  · exact (((hb1.alloc (Nat.le_of_lt hlt) _)).grown hgrow (Nat.le_trans (Nat.le_of_lt hlt) below_al.size) (fun k hk => (hown2.lt k hk).1)).setCell (p := ⟨B, 1, none⟩) hB _

theorem itoa_at (n : Int) (X : ByteArray) (hX : ofL (Lib.itoa n) = X) (h1 : -100000 ≤ n) (h2 : n ≤ 100000) (w : World) (E : Env w) : Calls Tryd.prog 14 #[.int .i64 n] w fun e w' => e = .returned (.string X) ∧ Below w.heap.size w w' := by
  refine (Tryd.strconv_Itoa n (by omega) (by omega) w E.tab).mono ?_
  rintro e w' ⟨rfl, k, os, rfl⟩
  exact ⟨by rw [← hX]; rfl, Lib.below_grow _ _ (Nat.le_refl _) _ _⟩
theorem itoa_size (n : Int) (X : ByteArray) (hX : ofL (Lib.itoa n) = X) (h1 : -100000 ≤ n) (h2 : n ≤ 100000) : X.size ≤ 21 := by
  rw [← hX, ofL_size]; exact Lib.itoa_length_le n (by omega) (by omega)
theorem head_bytes (x y w h : Int) : ofL (headT x y w h ++ [10]) = (((((((((⟨#[102, 114, 97, 109, 101, 32]⟩ : ByteArray) ++ ofL (Lib.itoa x)) ++ (⟨#[32]⟩ : ByteArray)) ++ ofL (Lib.itoa y)) ++ (⟨#[32]⟩ : ByteArray)) ++ ofL (Lib.itoa w)) ++ (⟨#[32]⟩ : ByteArray)) ++ ofL (Lib.itoa h)) ++ (⟨#[10]⟩ : ByteArray)) := by
  apply ByteArray.ext
  apply Array.toList_inj.1
  unfold headT
  simp [ofL, frameB]
end Go.Proofs.YtckadkobgmnoeaaDoor
