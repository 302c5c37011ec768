/- strings.Builder with room laid ahead; strings.Join of texts that take up to 2^48 bytes. -/
import Derived.Test.YtilninaminaadaaGreatDoorTfA
import Derived.Shelf.Strings.Builder2Cap
import Derived.Lib.Join
namespace Go.Proofs.YtilninaminaadaaGreatDoor
open Go.RowKit

/-- An append of a text's bytes where there is room: however much lies there. -/
theorem append_room {ops : Array Oper} {rest : List Oper} {o : Oper} {a : Act} {w : World} {Q : Exit → Act → World → Prop} (hgd : o.guard = none) (sl x : Operand)
    (ho : o.op = .call { callee := .builtin .append, args := #[sl, x], argTypes := #[60, 9] })
    (B : Nat) (bs : List Value) (p : Option Addr) (n c : Nat) (hn : bs.length = n) (hs : a.eval sl = .slice p n c) (hown : w.ownsRow B 5 1 (.slice p n c) n bs) (s : ByteArray) (hx : a.eval x = .string s)
    (hroom : n + s.size ≤ c) (hB : B ≤ w.heap.size)
    (h : ∀ p' w', w'.ownsRow B 5 1 (.slice p' (n + s.size) c) (n + s.size) (bs ++ Lib.strCells s) → w.grownBy w' (Value.slice p n c).ownBlock → wpList Tryz.prog ops Q rest (a.put o.dst (.slice p' (n + s.size) c)) w') : wpList Tryz.prog ops Q (o :: rest) a w := by
  obtain ⟨i0, hi, hz0, hz1, hz2⟩ := info_parts infoU8
  refine wpList_plain hgd fun K hK => ?_
  have key : ∃ p' w', (Builtin.append_ #[60, 9] o.type #[.slice p n c, .string s]).run Tryz.prog w = .ok (.slice p' (n + s.size) c) w' ∧ w'.ownsRow B 5 1 (.slice p' (n + s.size) c) (n + s.size) (bs ++ Lib.strCells s) ∧ w.grownBy w' (Value.slice p n c).ownBlock := by
    rcases hown.2 with ⟨e0, e1⟩ | ⟨g, cap, cur, e1, hbg, hg, hnc, hcm, hcs, htake⟩
    · injection e0 with e2 e3 e4
      subst e2; subst e4
      have hs0 : s.size = 0 := by omega
      obtain ⟨v', w', h1, h2, h3, h4⟩ := Lib.run_append_own_string (P := Tryz.prog) w B 60 9 o.type 5 i0 Tryz.underlying60 Tryz.underlying9 hi hz0 hz1 hz2 _ _ _ hown s (by unfold maxLen; omega) (by omega) hB
      obtain rfl := h4.2 ⟨by rw [e1], hs0⟩
      rw [e1, hs0] at h2 ⊢
      rw [e1] at h1 h3
      exact ⟨none, w', h1, h2, h3⟩
    · injection e1 with e2 e3 e4
      subst e2; subst e4
      have hcs' : cur.size = c := by simpa using hcs
      have hr := Lib.run_append_room_string (P := Tryz.prog) w 60 9 o.type 5 i0 Tryz.underlying60 Tryz.underlying9 hi hz1 g n c cur hg s hroom (by omega)
      have hlen : (bs ++ Lib.strCells s).length = (n + s.size) * 1 := by rw [List.length_append, Lib.strCells_length, Nat.mul_one, hn]
      refine ⟨_, _, hr, ⟨hlen, .inr ⟨g, c, _, rfl, hbg, setRow_heap w g cur _ _ _ hg, hroom, hcm, ?_, ?_⟩⟩, ⟨rfl, rfl, rfl, by simp, fun k _ hk => setRow_other w g k _ (fun e => hk (by simp [Value.ownBlock, e]))⟩⟩
      · simp only [List.size_toArray, List.length_append, List.length_take, List.length_drop, Array.length_toList, Lib.strCells_length]
        omega
      · have ht' : cur.toList.take n = bs := by simpa using htake
        rw [ht', ← hlen]
        exact List.take_left
  obtain ⟨p', w', hr, h2, h3⟩ := key
  unfold Oper.wp execOp
  simp only [ho, resolve, invoke, builtin, Sem.run_bind, Sem.run_pure, Result.andThen_ok, List.map_toArray, List.map_cons, List.map_nil, hs, hx, hr]
  exact hK _ _ (h p' w' h2 h3)
/-- A builder that has been written or grown: its bytes and its room. -/
def BtC (b : Nat) (l : List UInt8) (c : Nat) (w : World) : Prop :=
  ∃ p, w.heap[b]? = some (.cells #[.pointer (some ⟨b, 0, none⟩), .slice p l.length c] 62 (0, 0)) ∧ w.ownsRow b 5 1 (.slice p l.length c) l.length (Lib.byteCells l) ∧ (Value.slice p l.length c).ownBlock ≠ some b
theorem BtC.lt {b c : Nat} {l : List UInt8} {w : World} (h : BtC b l c w) : b < w.heap.size := by
  obtain ⟨p, h1, _⟩ := h
  exact (Array.getElem?_eq_some_iff.1 h1).1
theorem BtC.keep {b c : Nat} {l : List UInt8} {w w' : World} (h : BtC b l c w) (hb : Below w.heap.size w w') : BtC b l c w' := by
  obtain ⟨p, h1, h2, h3⟩ := h
  refine ⟨p, ?_, ⟨h2.1, ?_⟩, h3⟩
  · rw [hb.block b (Array.getElem?_eq_some_iff.1 h1).1]; exact h1
  · rcases h2.2 with h0 | ⟨g, cap, cur, e1, e2, e3, e4⟩
    · exact .inl h0
    · exact .inr ⟨g, cap, cur, e1, e2, (hb.block g (Array.getElem?_eq_some_iff.1 e3).1).trans e3, e4⟩
theorem BtC.is {b c : Nat} {l : List UInt8} {w : World} (h : BtC b l c w) : Lib.IsBuilder 62 5 b b (Lib.byteCells l) w := by
  obtain ⟨p, h1, h2, h3⟩ := h
  have hl : (Lib.byteCells l).length = l.length := Lib.byteCells_length l
  refine .inr ⟨Nat.le_refl _, _, h1, ?_, h3⟩
  rw [hl]; exact h2
theorem bld_grow (b n : Nat) (w : World) (hb : w.heap[b]? = some (.cells #[.pointer none, .slice none 0 0] 62 (0, 0))) (hn : n ≤ 281474976710656) :
    Calls Tryz.prog 63 #[.pointer (some ⟨b, 0, none⟩), .int .i64 n] w fun e w' => e = .returned (.tuple #[]) ∧ Below b w w' ∧ ∃ c, BtC b [] c w' ∧ n ≤ c := by
  have hlt := (Array.getElem?_eq_some_iff.1 hb).1
  refine (Any.Builder_Grow_fresh_cap Tryz.lays165 Tryz.Builder_Extra_165 b b n w (Nat.le_refl _) hb (Nat.le_of_lt hlt) hn).mono ?_
  rintro e w' ⟨rfl, ⟨⟨_, v, h1, h2, h3⟩, hbl⟩, p, c, h4, h5⟩
  refine ⟨rfl, hbl, c, ?_, h5⟩
  have hv : v = .slice p 0 c := by
    unfold World.cell? at h4
    simp [h1] at h4
    exact h4
  subst hv
  exact ⟨p, h1, h2, h3⟩

set_option maxRecDepth 100000 in
set_option maxHeartbeats 2000000 in
theorem bld_writeC (b c : Nat) (l : List UInt8) (s : ByteArray) (w : World) (h : BtC b l c w) (hroom : l.length + s.size ≤ c) :
    Calls Tryz.prog 29 #[.pointer (some ⟨b, 0, none⟩), .string s] w fun e w' => e = .returned (.tuple #[.int .i64 s.size, .nilIface]) ∧ BtC b (l ++ s.data.toList) c w' ∧ Below b w w' := by
  have hlt := h.lt
  obtain ⟨p, hbk, hown, hne⟩ := h
  have hbl : (Lib.byteCells l).length = l.length := Lib.byteCells_length l
  have hc0 : w.cell? ⟨b, 0, none⟩ = some (.pointer (some ⟨b, 0, none⟩)) := by rw [Lib.cell_of_heap hbk]; rfl
  have HO := Lib.hid hown
  have HK := Lib.hid hbk
  have HN := Lib.hid hne
  have c1 : w.cell? ⟨b, 1, none⟩ = some (.slice p l.length c) := by rw [Lib.cell_of_heap hbk]; rfl
  have hc2 := hc0
  have HBL := Lib.hid hbl
  clear hown hbk hne hbl
  go_enter Tryz.func29, Tryz.ntmps29
  go_wp2_with fail
  refine (bld_check_used b _ hc2).mono ?_
  rintro e w1 ⟨rfl, rfl⟩
  go_wp2_with (at_builtin; refine append_room rfl _ _ rfl b (Lib.byteCells l) p l.length c HBL.out rfl HO.out s rfl hroom (by omega) ?_)
  intro p' w2 hown' hgrow
  have hb2 : w2.heap[b]? = some (.cells #[.pointer (some ⟨b, 0, none⟩), .slice p l.length c] 62 (0, 0)) := by
    rw [hgrow.block b hlt (fun e => HN.out e.symm)]
    exact HK.out
  have d0 : w2.cell? ⟨b, 0, none⟩ = some (.pointer (some ⟨b, 0, none⟩)) := by rw [Lib.cell_of_heap hb2]; rfl
  have d1 : w2.cell? ⟨b, 1, none⟩ = some (.slice p l.length c) := by rw [Lib.cell_of_heap hb2]; rfl
  have f1 : w2.frozen? ⟨b, 1, none⟩ = false := Lib.frozen_of_heap hb2 1
  have HO2 := Lib.hid hown'
  have HB2 := Lib.hid hb2
  have HG := Lib.hid hgrow
  clear hown' hgrow hb2
  go_wp2
  go_ret2
  have el : (l ++ s.data.toList).length = l.length + s.size := by rw [List.length_append, Lib.size_eq]
  have eb : Lib.byteCells (l ++ s.data.toList) = Lib.byteCells l ++ Lib.strCells s := by rw [Lib.byteCells_append, Lib.strCells_eq]
  have ec : (Lib.byteCells l ++ Lib.strCells s).length = l.length + s.size := by rw [List.length_append, HBL.out, Lib.strCells_length]
  refine ⟨rfl, ?_, ?_⟩
  · have e : Lib.BuilderAt 62 5 b b (.pointer (some ⟨b, 0, none⟩)) (Lib.byteCells l ++ Lib.strCells s) _ := Lib.BuilderAt.put (T := 62) (e := 5) (v' := .slice p' (l.length + s.size) c) (Nat.le_refl b) HB2.out (bs' := Lib.byteCells l ++ Lib.strCells s) (by rw [ec]; exact HO2.out) (by decide)
    obtain ⟨_, v, k1, k2, k3⟩ := e
    have hv : v = .slice p' (l.length + s.size) c := by
      have z : (w2.setCell ⟨b, 1, none⟩ (.slice p' (l.length + s.size) c)).heap[b]? = some (.cells #[.pointer (some ⟨b, 0, none⟩), .slice p' (l.length + s.size) c] 62 (0, 0)) := by
        simp [World.setCell, Array.getElem?_modify, HB2.out]
      rw [z] at k1
      simp only [Option.some.injEq, Obj.cells.injEq] at k1
      have := congrArg (·[1]?) k1.1
      simpa using this.symm
    subst hv
    refine ⟨p', ?_, ?_, ?_⟩
    · rw [el]; exact k1
    · rw [el, eb]
      rw [ec] at k2
      exact k2
    · rw [el]; exact k3
  · exact (((Below.refl b w1).grown HG.out (Nat.le_of_lt hlt) (fun k hk => (HO.out.lt k hk).1))).setCell (p := ⟨b, 1, none⟩) (Nat.le_refl b) _
end Go.Proofs.YtilninaminaadaaGreatDoor
