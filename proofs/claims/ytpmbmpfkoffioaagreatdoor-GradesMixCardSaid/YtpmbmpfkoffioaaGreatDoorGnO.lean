/- Pointers gathered in a box; the closure of grade.singles. (printed by gen_gno.py) -/
import Derived.Test.YtpmbmpfkoffioaaGreatDoorGnN
namespace Go.Proofs.YtpmbmpfkoffioaaGreatDoor
open Go.RowKit Go.Lib

def ptrV (a : Addr) : Value := .pointer (some a)
theorem infoPt : (Tryz.prog.info? 53).map (fun i => (i.zero, i.size, i.bytes)) = some (some (.pointer none), 1, 8) := by kernel_rfl
def OwnPt (B : Nat) (w : World) (v : Value) (S : List Addr) : Prop := w.ownsRow B 53 1 v S.length (S.map ptrV)
theorem OwnPt.kept {B : Nat} {w w' : World} {v : Value} {S : List Addr} (h : OwnPt B w v S) (hk : ∀ g cur, v.ownBlock = some g → w.heap[g]? = some (.cells cur 53 (0, 0)) → w'.heap[g]? = w.heap[g]?) : OwnPt B w' v S := by
  refine ⟨h.1, ?_⟩
  rcases h.2 with h0 | ⟨g, cap, cur, e1, e2, e3, e4⟩
  · exact .inl h0
  · exact .inr ⟨g, cap, cur, e1, e2, (hk g cur (by rw [e1]; rfl) e3).trans e3, e4⟩
theorem OwnPt.keep {B : Nat} {w w' : World} {v : Value} {S : List Addr} (h : OwnPt B w v S) (hb : Below w.heap.size w w') : OwnPt B w' v S :=
  h.kept fun g _ _ he => hb.block g (Array.getElem?_eq_some_iff.1 he).1
/-- A block of another type is not the own one. -/
theorem OwnPt.apart {B : Nat} {w : World} {v : Value} {S : List Addr} (h : OwnPt B w v S) {b : Nat} {T : TypeId} {cs : Array Value} (hb : Bk w b T cs) (ht : T ≠ 53 ∨ b < B) : v.ownBlock ≠ some b := by
  intro e
  rcases h.2 with ⟨h0, _⟩ | ⟨g, cap, cur, e1, e2, e3, e4⟩
  · rw [h0] at e; cases e
  · rw [e1] at e
    simp only [Value.ownBlock, Option.some.injEq] at e
    subst e
    obtain ⟨mk, hm⟩ := hb
    have := hm.symm.trans e3
    injection this with this
    injection this with _ e5 _
    rcases ht with ht | ht
    · exact ht e5
    · omega
/-- Blocks that hold neither texts nor slices of texts are as they were. -/
def KpP (W1 w : World) : Prop := ∀ (k : Nat) (cs : Array Value) (T : TypeId) (mk : Nat × Nat), W1.heap[k]? = some (Obj.cells cs T mk) → T ≠ 53 → T ≠ 50 → w.heap[k]? = some (Obj.cells cs T mk)
theorem KpP.refl (w : World) : KpP w w := fun _ _ _ _ h _ _ => h
theorem KpP.trans {a b c : World} (h : KpP a b) (g : KpP b c) : KpP a c := fun k cs T mk h1 h2 h3 => g k cs T mk (h k cs T mk h1 h2 h3) h2 h3
theorem KpP.below {w w' : World} (hb : Below w.heap.size w w') : KpP w w' := fun k cs T mk h _ _ => (hb.block k (Array.getElem?_eq_some_iff.1 h).1).trans h
theorem KpP.bx {W1 w : World} (h : KpP W1 w) {k : Nat} {T : TypeId} {cs : Array Value} (hx : Bx W1 k T cs) (h1 : T ≠ 53) (h2 : T ≠ 50) : Bx w k T cs := h k cs T (0, 0) hx h1 h2
theorem KpP.bk {W1 w : World} (h : KpP W1 w) {k : Nat} {T : TypeId} {cs : Array Value} (hx : Bk W1 k T cs) (h1 : T ≠ 53) (h2 : T ≠ 50) : Bk w k T cs := by
  obtain ⟨mk, hx⟩ := hx
  exact ⟨mk, h k cs T mk hx h1 h2⟩
section
variable {w : World} {v : Value}
theorem OwnPt.form {B : Nat} {S : List Addr} (h : OwnPt B w v S) : ∃ a n c, v = .slice a n c := by
  rcases h.2 with ⟨h0, _⟩ | ⟨g, cap, cur, e1, _⟩
  · exact ⟨_, _, _, h0⟩
  · exact ⟨_, _, _, e1⟩
end
/-- The words so far, in the box p; the block b is as it was. -/
def WsP (W0 : World) (p : Nat) (W1 : World) (L : List Addr) (v : Value) (w : World) : Prop :=
  Below W0.heap.size W0 w ∧ KpP W1 w ∧ Bx w p 50 #[v] ∧ OwnPt W0.heap.size w v L
theorem WsP.keep {W0 W1 : World} {p : Nat} {L : List Addr} {v : Value} {w w' : World} (h : WsP W0 p W1 L v w) (hb : Below w.heap.size w w') : WsP W0 p W1 L v w' :=
  ⟨h.1.trans (hb.mono h.1.size), h.2.1.trans (KpP.below hb), h.2.2.1.keep hb, h.2.2.2.keep hb⟩
structure WXP (W0 : World) (p : Nat) (v : Value) (W1 : World) (L T : List Addr) (d0 d3 d4 d5 : Bool) (v3 v4 : Value) (w : World) : Prop where
  bel : Below W0.heap.size W0 w
  kp : KpP W1 w
  bx : Bx w p 50 #[if d5 then v4 else v]
  own : if d4 then OwnPt W0.heap.size w v4 (L ++ T) else OwnPt W0.heap.size w v L
  arg : d3 = true → d4 = false → ∃ gn, v3 = .slice (some ⟨gn, 0, none⟩) T.length T.length ∧ Bx w gn 53 (T.map ptrV).toArray
  o4 : d4 = true → d0 = true ∧ d3 = true
  o5 : d5 = true → d4 = true
section
variable {W0 W1 : World} {p : Nat} {v : Value} {L T : List Addr} {d0 d3 d4 d5 : Bool} {v3 v4 : Value} {w w' : World}
theorem WXP.keep (h : WXP W0 p v W1 L T d0 d3 d4 d5 v3 v4 w) (hb : Below w.heap.size w w') : WXP W0 p v W1 L T d0 d3 d4 d5 v3 v4 w' := by
  obtain ⟨a1, a2, a3, a4, a5, a6, a7⟩ := h
  refine ⟨a1.trans (hb.mono a1.size), a2.trans (KpP.below hb), a3.keep hb, ?_, fun e f => ?_, a6, a7⟩
  · split
    · rename_i e; rw [if_pos e] at a4; exact a4.keep hb
    · rename_i e; rw [if_neg e] at a4; exact a4.keep hb
  · obtain ⟨gn, e1, e2⟩ := a5 e f
    exact ⟨gn, e1, e2.keep hb⟩
theorem WXP.set0 (h : WXP W0 p v W1 L T d0 d3 d4 d5 v3 v4 w) : WXP W0 p v W1 L T true d3 d4 d5 v3 v4 w :=
  ⟨h.bel, h.kp, h.bx, h.own, h.arg, fun e => ⟨rfl, (h.o4 e).2⟩, h.o5⟩
theorem WXP.set3 (h : WXP W0 p v W1 L T d0 d3 d4 d5 v3 v4 w) (n : Nat) (hn : n = T.length) (cs : Array Value) (hc : cs = (T.map ptrV).toArray) : WXP W0 p v W1 L T d0 true d4 d5 (.slice (some ⟨w.heap.size, 0, none⟩) n n) v4 (w.alloc (.cells cs 53)) := by
  subst hn; subst hc
  have k := h.keep (bnew (Below.refl _ w) (ob := .cells (T.map ptrV).toArray 53))
  exact ⟨k.bel, k.kp, k.bx, k.own, fun _ _ => ⟨_, rfl, Bx.new _ _ _⟩, fun e => ⟨(k.o4 e).1, rfl⟩, k.o5⟩
theorem WXP.set4 (h : WXP W0 p v W1 L T true true false d5 v3 v4 w) {v' : Value} (hown : w'.ownsRow W0.heap.size 53 1 v' (L.length + T.length) (L.map ptrV ++ T.map ptrV)) (hgrow : w.grownBy w' v.ownBlock) :
    WXP W0 p v W1 L T true true true d5 v3 v' w' := by
  obtain ⟨a1, a2, a3, a4, a5, a6, a7⟩ := h
  have h5 : d5 = false := by
    cases d5
    · rfl
    · exact absurd (a7 rfl) (by decide)
  subst h5
  rw [if_neg (by decide)] at a4
  have hpp : v.ownBlock ≠ some p := a4.apart (T := 50) ⟨_, a3⟩ (.inl (by decide))
  refine ⟨?_, ?_, ?_, ?_, fun _ e => (by cases e), fun _ => ⟨rfl, rfl⟩, fun e => by cases e⟩
  · refine a1.grown hgrow a1.size fun k hk => ?_
    rcases a4.2 with ⟨h0, _⟩ | ⟨g, cap, cur, e1, e2, _⟩
    · rw [h0] at hk; cases hk
    · rw [e1] at hk
      simp only [Value.ownBlock, Option.some.injEq] at hk
      omega
  · intro k cs T mk h1 h2 h3
    have h4 := a2 k cs T mk h1 h2 h3
    exact (hgrow.block k (Array.getElem?_eq_some_iff.1 h4).1 (Ne.symm (a4.apart ⟨mk, h4⟩ (.inl h2)))).trans h4
  · unfold Bx
    rw [hgrow.block p a3.lt (Ne.symm hpp)]
    exact a3
  · rw [if_pos rfl]
    unfold OwnPt
    rw [List.map_append, List.length_append]
    exact hown
theorem WXP.set5b (h : WXP W0 p v W1 L T d0 d3 d4 d5 v3 v4 w) (h4 : d4 = true) (h5 : d5 = false) (hp : W0.heap.size ≤ p) : WXP W0 p v W1 L T d0 d3 d4 true v3 v4 (w.setCell ⟨p, 0, none⟩ v4) := by
  subst h4; subst h5
  obtain ⟨a1, a2, a3, a4, a5, a6, a7⟩ := h
  rw [if_pos rfl] at a4
  rw [if_neg (by decide)] at a3
  have hpp : v4.ownBlock ≠ some p := a4.apart (T := 50) ⟨_, a3⟩ (.inl (by decide))
  refine ⟨a1.setCell (p := ⟨p, 0, none⟩) hp _, ?_, ?_, ?_, fun _ e => (by cases e), a6, fun _ => rfl⟩
  · intro k cs T mk h1 h2 h3
    have h4 := a2 k cs T mk h1 h2 h3
    rw [Below.heap_setCell]
    · exact h4
    · rintro rfl
      have := h4.symm.trans a3
      injection this with this
      injection this with _ e5 _
      exact h3 e5
  · rw [if_pos rfl]; exact a3.set 0 v4
  · rw [if_pos rfl]
    exact a4.kept fun g cur hg _ => by
      rw [Below.heap_setCell]
      intro e
      exact hpp (by rw [hg]; exact congrArg some e)
theorem WXP.form (h : WXP W0 p v W1 L T d0 d3 d4 d5 v3 v4 w) (h4 : d4 = true) : ∃ a n c, v4 = .slice a n c := by
  have := h.own
  rw [if_pos h4] at this
  exact this.form
theorem WXP.ws (h : WXP W0 p v W1 L T true true true true v3 v4 w) : WsP W0 p W1 (L ++ T) v4 w := by
  obtain ⟨a1, a2, a3, a4, a5, a6, a7⟩ := h
  rw [if_pos rfl] at a3 a4
  exact ⟨a1, a2, a3, a4⟩
theorem WsP.wx (h : WsP W0 p W1 L v w) (T : List Addr) (v3 v4 : Value) : WXP W0 p v W1 L T false false false false v3 v4 w :=
  ⟨h.1, h.2.1, by rw [if_neg (by decide)]; exact h.2.2.1, by rw [if_neg (by decide)]; exact h.2.2.2, fun e => (by cases e), fun e => (by cases e), fun e => by cases e⟩
end
/-- The append itself, in a drawn region. -/
theorem wxp_append {W0 W1 w : World} {p : Nat} {v : Value} {L T : List Addr} {d5 : Bool} {v3 v4 : Value} (h : WXP W0 p v W1 L T true true false d5 v3 v4 w) (hT : 0 < T.length) (hL : L.length + T.length ≤ 1000000) {o : Oper} {a : Act} {K : Act → World → Prop} {Q : Exit → Act → World → Prop} (s x : Operand)
    (ho : o.op = .call { callee := .builtin .append, args := #[s, x], argTypes := #[50, 50] }) (hs : a.eval s = v) (hx : a.eval x = v3)
    (hK : ∀ v' w', WXP W0 p v W1 L T true true true d5 v3 v' w' → K (a.put o.dst v') w') : o.wp Tryz.prog a w K Q := by
  obtain ⟨gn, e3, x3⟩ := h.arg rfl rfl
  have hO := h.own
  rw [if_neg (by decide)] at hO
  obtain ⟨i0, hi0, hz0, hz1, hz2⟩ := info_parts infoPt
  have hml : maxLen = 9223372036854775807 := rfl
  refine wp_append_own w s x 50 ho W0.heap.size 53 i0 (.pointer none) 1 8 Tryz.underlying50 hi0 hz0 hz1 hz2 rfl (by decide) v L.length (L.map ptrV) hs hO ⟨gn, 0, none⟩ T.length T.length (T.map ptrV) (hx.trans e3) (by rw [List.length_map, Nat.mul_one]) (fun j y hj => ?_) (fun y hy => ?_) (by omega) (by omega) h.bel.size ?_
  · rw [add_none, x3.all.1, Nat.zero_add]
    simpa using hj
  · obtain ⟨q, _, rfl⟩ := List.mem_map.1 hy
    rfl
  · intro v' w' ho hg _
    exact hK v' w' (h.set4 ho hg)

/-- The addresses of n cells from a cell on. -/
def cellsP (b o n : Nat) : List Addr := (List.range n).map fun i => ⟨b, o + i, none⟩
set_option maxRecDepth 100000 in
set_option maxHeartbeats 8000000 in
theorem sg_add (b o c n : Nat) (W0 : World) (p : Nat) (W1 : World) (hp : W0.heap.size ≤ p) (L : List Addr) (v : Value) (w : World) (h : WsP W0 p W1 L v w) (hL : L.length + n ≤ 1000000) :
    Calls Tryz.prog 36 #[.slice (some ⟨b, o, none⟩) n c, .pointer (some ⟨p, 0, none⟩)] w fun e w' => e = .returned (.tuple #[]) ∧ ∃ v', WsP W0 p W1 (L ++ cellsP b o n) v' w' := by
  have HP := Lib.hid hp
  have HC := Lib.hid hL
  have HW := Lib.hid h
  have hn6 : n ≤ 1000000 := by omega
  clear hp hL h
  go_enter Tryz.func36, Tryz.ntmps36
  go_wp2_with fail
  go_loopw [6] (fun s wr => ∃ (k : Nat) (u : Value), k ≤ n ∧ s = .int .i64 k ∧ Hid (WsP W0 p W1 (L ++ cellsP b o k) u wr)) (fun s _ => (n - (RowKit.intOf s).toNat))
  case atStart => exact ⟨0, v, Nat.zero_le _, rfl, Lib.hid (by rw [show cellsP b o 0 = [] from rfl, List.append_nil]; exact HW.out)⟩
  case round =>
    obtain ⟨k, u, hk, rfl, HI⟩ := hrel
    by_cases hlt : k < n
    · obtain ⟨M, hM⟩ : ∃ M, L ++ cellsP b o k = M := ⟨_, rfl⟩
      have HI2 : Hid (WsP W0 p W1 M u wr) := Lib.hid (hM ▸ HI.out)
      have HLn : Hid (M.length + 1 ≤ 1000000) := Lib.hid (by rw [← hM, List.length_append]; unfold cellsP; rw [List.length_map, List.length_range]; have := HC.out; omega)
      have HM : Hid (L ++ cellsP b o (k + 1) = M ++ [⟨b, o + k, none⟩]) := Lib.hid (by
        rw [← hM]; unfold cellsP; rw [List.range_succ, List.map_append, ← List.append_assoc]; rfl)
      have hd1 : decide ((k : Int) < (n : Int)) = true := decide_eq_true (by omega)
      clear HI hM
      go_upto_region 3 with fail
      refine wp_region_inv 7 (fun qz u' => if qz = 4 then True else if qz = 5 then True else u' = [u, (.slice (some ⟨b, o, none⟩) n c), (.int .i64 (k : Int)), (.pointer (some ⟨b, o + k, none⟩)), undef, undef, undef].getD qz undef) (fun d vs w' => WXP W0 p u W1 M [⟨b, o + k, none⟩] (d 0) (d 4) (d 5) (d 6) (vs 4) (vs 5) w') (by kernel_rfl) (by kernel_rfl) ?_ ?_ ?_
      · intro vs
        exact WXP.keep (w := wr) (WsP.wx HI2.out [⟨b, o + k, none⟩] _ _) ((Below.refl _ _).drew)
      · intro iq oq hi ho
        rcases (by omega : iq = 0 ∨ iq = 1 ∨ iq = 2 ∨ iq = 3 ∨ iq = 4 ∨ iq = 5 ∨ iq = 6) with rfl | rfl | rfl | rfl | rfl | rfl | rfl
        all_goals simp only [List.getElem?_cons_zero, List.getElem?_cons_succ, Option.some.injEq] at ho
        all_goals subst ho
        all_goals intro d a0 wx hI hag hdep hun
        · have e0 := slot_eq (hag 1 rfl)
          have h5 : d 5 = false := by
            cases h : d 5
            · rfl
            · have := (hI.o4 h).1; rw [hun] at this; cases this
          have h6 : d 6 = false := by
            cases h : d 6
            · rfl
            · have := hI.o5 h; rw [h5] at this; cases this
          have hq := hI.bx.all.1 0
          rw [h6, if_neg (by decide)] at hq
          exact inv_val (v := u) (by simp [go_sem, e0, hq]) (fun h => (by cases h)) rfl hI.set0
        · have e0 := slot_eq (hag 0 rfl)
          exact inv_val (v := (.slice (some ⟨b, o, none⟩) n c)) (by simp [go_sem, e0]) (fun h => (by cases h)) rfl hI
        · have e0 := slot_eq (hag 3 rfl)
          exact inv_val (v := (.int .i64 (k : Int))) (by simp [go_sem, e0]) (fun h => (by cases h)) rfl hI
        · have z1 : (k : Int) < (n : Int) := by omega
          have e0 := slot_eq (hdep ⟨1, .data⟩ (by simp) rfl).1
          have e1 := slot_eq (hdep ⟨2, .data⟩ (by simp) rfl).1
          exact inv_val (v := (.pointer (some ⟨b, o + k, none⟩))) (by simp [go_sem, e0, e1, z1, hlt]) (fun h => (by cases h)) rfl hI
        · have e0 := slot_eq (hdep ⟨3, .data⟩ (by simp) rfl).1
          exact inv_val (v := .slice (some ⟨wx.heap.size, 0, none⟩) 1 1) (w' := wx.alloc (.cells #[.pointer (some ⟨b, o + k, none⟩)] 53)) (by simp [go_sem, e0]) (fun h => (by cases h)) trivial (WXP.set3 hI 1 rfl _ rfl)
        · have e0 := slot_eq (hdep ⟨0, .data⟩ (by simp) rfl).1
          have hJ2 : WXP W0 p u W1 M [⟨b, o + k, none⟩] (d 0) (d 4) (d 5) (d 6) (slotOf _ a0 4) (slotOf _ a0 5) wx := hI
          rw [(hdep ⟨0, .data⟩ (by simp) rfl).2, (hdep ⟨4, .data⟩ (by simp) rfl).2, hun] at hJ2
          have hlen := HLn.out
          refine wxp_append hJ2 (Nat.succ_pos _) (by simp only [List.length_cons, List.length_nil]; omega) (.tmp 9) (.tmp 13) rfl (by simp [Act.eval, e0]) rfl ?_
          intro v' w' h'
          refine ⟨v', rfl, fun h => (by cases h), trivial, ?_⟩
          show WXP W0 p u W1 M [⟨b, o + k, none⟩] (d 0) (d 4) true (d 6) _ v' w'
          rw [(hdep ⟨0, .data⟩ (by simp) rfl).2, (hdep ⟨4, .data⟩ (by simp) rfl).2]
          exact h'
        · have e0 := slot_eq (hag 1 rfl)
          have h4 := (hdep ⟨5, .data⟩ (by simp) rfl).2
          obtain ⟨pa, na, ca, hv4⟩ := hI.form h4
          have e1 := slot_eq hv4
          obtain ⟨qx, fx, _⟩ := hI.bx.all
          have hq := qx 0
          have hf := fx 0
          rw [hun, if_neg (by decide)] at hq
          have hS := hI.set5b h4 hun HP.out
          refine inv_skip (w' := wx.setCell ⟨p, 0, none⟩ (slotOf _ a0 5)) ?_ rfl hS
          rw [hv4]
          clear hS hI hag hdep hv4 qx fx
          simp only [List.getElem?_toArray, List.getElem?_cons_zero] at hq
          simp [go_sem, e0, e1, hq, hf]
      · intro d vs w6 hd hI hA
        have k0 : vs 0 = u := hA 0 (by omega)
        have k1 : vs 1 = (.slice (some ⟨b, o, none⟩) n c) := hA 1 (by omega)
        have k2 : vs 2 = (.int .i64 (k : Int)) := hA 2 (by omega)
        have k3 : vs 3 = (.pointer (some ⟨b, o + k, none⟩)) := hA 3 (by omega)
        simp only [putAll, dstAt, List.getElem?_toArray, List.getElem?_cons_zero, List.getElem?_cons_succ, Option.bind_some, Option.bind_none, Act.put, List.setIfInBounds_toArray, List.set_cons_zero, List.set_cons_succ, k0, k1, k2, k3]
        have hI6 : WXP W0 p u W1 M [⟨b, o + k, none⟩] true true true true (vs 4) (vs 5) w6 := by
          have h := hI
          simp only [hd 0 (by omega), hd 4 (by omega), hd 5 (by omega), hd 6 (by omega)] at h
          exact h
        generalize vs 4 = u4 at *
        generalize vs 5 = u5 at *
        have HN := Lib.hid hI6.ws
        have HK := Lib.hid hlt
        clear hI hA hd k0 k1 k2 k3 hI6 hd1 hlt
        go_wp2_with fail
        go_roundw
        case rel => exact ⟨k + 1, _, Nat.succ_le_of_lt HK.out, by go_num, Lib.hid (by rw [HM.out]; exact HN.out)⟩
        case measure => have := HK.out; simp [RowKit.intOf]; omega
    · obtain rfl : k = n := by omega
      have hd1 : decide ((k : Int) < (k : Int)) = false := decide_eq_false (by omega)
      go_wp2_with fail
      go_end0
      exact ⟨rfl, u, HI.out⟩
set_option maxRecDepth 100000 in
theorem sg_none (a : Option Addr) (c : Nat) (W0 : World) (p : Nat) (W1 : World) (L : List Addr) (v : Value) (w : World) (h : WsP W0 p W1 L v w) :
    Calls Tryz.prog 36 #[.slice a 0 c, .pointer (some ⟨p, 0, none⟩)] w fun e w' => e = .returned (.tuple #[]) ∧ ∃ v', WsP W0 p W1 L v' w' := by
  have HW := Lib.hid h
  clear h
  go_enter Tryz.func36, Tryz.ntmps36
  go_wp2_with fail
  go_loopw [6] (fun s wr => s = .int .i64 0 ∧ Hid (WsP W0 p W1 L v wr)) (fun s _ => 0)
  case atStart => exact ⟨rfl, HW⟩
  case round =>
    obtain ⟨rfl, HI⟩ := hrel
    go_wp2_with fail
    go_end0
    exact ⟨rfl, v, HI.out⟩
end Go.Proofs.YtpmbmpfkoffioaaGreatDoor
