/- Plain: a grade and the words it is printed with. -/
import Derived.Test.YticekgnmiaidjaaGreatDoorFfM
import Derived.Test.YticekgnmiaidjaaGreatDoorInv
import Derived.OwnWalk
import Derived.Lib.AppendZerosOnto
import Derived.Lib.Walk
import Derived.Lib.SliceRun
import Derived.Lib.AppendIntMem
namespace Go.Proofs.YticekgnmiaidjaaGreatDoor

section
open Go.RowKit Go.Lib

theorem infoG : (Tryz.prog.info? 9).map (fun i => (i.zero, i.size, i.bytes)) = some (some (.string ⟨#[]⟩), 1, 16) := by kernel_rfl
def OwnG (B : Nat) (w : World) (v : Value) (S : List ByteArray) : Prop := w.ownsRow B 9 1 v S.length (S.map Value.string)
theorem OwnG.kept {B : Nat} {w w' : World} {v : Value} {S : List ByteArray} (h : OwnG B w v S) (hk : ∀ g cur, v.ownBlock = some g → w.heap[g]? = some (.cells cur 9 (0, 0)) → w'.heap[g]? = w.heap[g]?) : OwnG B w' v S := by
  refine ⟨h.1, ?_⟩
  rcases h.2 with h0 | ⟨g, cap, cur, e1, e2, e3, e4⟩
  · exact .inl h0
  · exact .inr ⟨g, cap, cur, e1, e2, (hk g cur (by rw [e1]; rfl) e3).trans e3, e4⟩
theorem OwnG.keep {B : Nat} {w w' : World} {v : Value} {S : List ByteArray} (h : OwnG B w v S) (hb : Below w.heap.size w w') : OwnG B w' v S :=
  h.kept fun g _ _ he => hb.block g (Array.getElem?_eq_some_iff.1 he).1
/-- A block of another type is not the own one. -/
theorem OwnG.apart {B : Nat} {w : World} {v : Value} {S : List ByteArray} (h : OwnG B w v S) {b : Nat} {T : TypeId} {cs : Array Value} (hb : Bk w b T cs) (ht : T ≠ 9 ∨ b < B) : v.ownBlock ≠ some b := by
  intro e
  rcases h.2 with ⟨h0, _⟩ | ⟨g, cap, cur, e1, e2, e3, e4⟩
  · rw [h0] at e; cases e
  · rw [e1] at e
    simp only [Value.ownBlock, Option.some.injEq] at e
    subst e
    obtain ⟨mk, hm⟩ := hb
    have := hm.symm.trans e3
    injection this with this
    injection this with _ e5 _
    rcases ht with ht | ht
    · exact ht e5
    · omega
/-- Blocks that hold neither texts nor slices of texts are as they were. -/
def Kp (W1 w : World) : Prop := ∀ (k : Nat) (cs : Array Value) (T : TypeId) (mk : Nat × Nat), W1.heap[k]? = some (Obj.cells cs T mk) → T ≠ 9 → T ≠ 60 → w.heap[k]? = some (Obj.cells cs T mk)
theorem Kp.refl (w : World) : Kp w w := fun _ _ _ _ h _ _ => h
theorem Kp.trans {a b c : World} (h : Kp a b) (g : Kp b c) : Kp a c := fun k cs T mk h1 h2 h3 => g k cs T mk (h k cs T mk h1 h2 h3) h2 h3
theorem Kp.below {w w' : World} (hb : Below w.heap.size w w') : Kp w w' := fun k cs T mk h _ _ => (hb.block k (Array.getElem?_eq_some_iff.1 h).1).trans h
theorem Kp.bx {W1 w : World} (h : Kp W1 w) {k : Nat} {T : TypeId} {cs : Array Value} (hx : Bx W1 k T cs) (h1 : T ≠ 9) (h2 : T ≠ 60) : Bx w k T cs := h k cs T (0, 0) hx h1 h2
structure WE (W0 : World) (p : Nat) (v : Value) (W1 : World) (L : List ByteArray) (t : ByteArray) (d0 d3 d4 d5 : Bool) (v3 v4 : Value) (w : World) : Prop where
  bel : Below W0.heap.size W0 w
  kp : Kp W1 w
  bx : Bx w p 60 #[if d5 then v4 else v]
  own : if d4 then OwnG W0.heap.size w v4 (L ++ [t]) else OwnG W0.heap.size w v L
  arg : d3 = true → d4 = false → ∃ gn, v3 = .slice (some ⟨gn, 0, none⟩) 1 1 ∧ Bx w gn 9 #[.string t]
  o4 : d4 = true → d0 = true ∧ d3 = true
  o5 : d5 = true → d4 = true
section
variable {W0 W1 : World} {p : Nat} {v : Value} {L : List ByteArray} {t : ByteArray} {d0 d3 d4 d5 : Bool} {v3 v4 : Value} {w w' : World}
theorem WE.keep (h : WE W0 p v W1 L t d0 d3 d4 d5 v3 v4 w) (hb : Below w.heap.size w w') : WE W0 p v W1 L t d0 d3 d4 d5 v3 v4 w' := by
  obtain ⟨a1, a2, a3, a4, a5, a6, a7⟩ := h
  refine ⟨a1.trans (hb.mono a1.size), a2.trans (Kp.below hb), a3.keep hb, ?_, fun e f => ?_, a6, a7⟩
  · split
    · rename_i e; rw [if_pos e] at a4; exact a4.keep hb
    · rename_i e; rw [if_neg e] at a4; exact a4.keep hb
  · obtain ⟨gn, e1, e2⟩ := a5 e f
    exact ⟨gn, e1, e2.keep hb⟩
theorem WE.set0 (h : WE W0 p v W1 L t d0 d3 d4 d5 v3 v4 w) : WE W0 p v W1 L t true d3 d4 d5 v3 v4 w :=
  ⟨h.bel, h.kp, h.bx, h.own, h.arg, fun e => ⟨rfl, (h.o4 e).2⟩, h.o5⟩
theorem WE.set3 (h : WE W0 p v W1 L t d0 d3 d4 d5 v3 v4 w) : WE W0 p v W1 L t d0 true d4 d5 (.slice (some ⟨w.heap.size, 0, none⟩) 1 1) v4 (w.alloc (.cells #[.string t] 9)) := by
  have k := h.keep (bnew (Below.refl _ w) (ob := .cells #[.string t] 9))
  exact ⟨k.bel, k.kp, k.bx, k.own, fun _ _ => ⟨_, rfl, Bx.new _ _ _⟩, fun e => ⟨(k.o4 e).1, rfl⟩, k.o5⟩
theorem WE.set4 (h : WE W0 p v W1 L t true true false d5 v3 v4 w) (hp : W0.heap.size ≤ p) {v' : Value} (hown : w'.ownsRow W0.heap.size 9 1 v' (L.length + 1) (L.map Value.string ++ [.string t])) (hgrow : w.grownBy w' v.ownBlock) :
    WE W0 p v W1 L t true true true d5 v3 v' w' := by
  obtain ⟨a1, a2, a3, a4, a5, a6, a7⟩ := h
  have h5 : d5 = false := by
    cases d5
    · rfl
    · exact absurd (a7 rfl) (by decide)
  subst h5
  rw [if_neg (by decide)] at a4
  have hO := a4
  have hpp : v.ownBlock ≠ some p := a4.apart (T := 60) ⟨_, a3⟩ (.inl (by decide))
  refine ⟨?_, ?_, ?_, ?_, fun _ e => (by cases e), fun _ => ⟨rfl, rfl⟩, fun e => by cases e⟩
  · refine a1.grown hgrow a1.size fun k hk => ?_
    rcases a4.2 with ⟨h0, _⟩ | ⟨g, cap, cur, e1, e2, _⟩
    · rw [h0] at hk; cases hk
    · rw [e1] at hk
      simp only [Value.ownBlock, Option.some.injEq] at hk
      omega
  · intro k cs T mk h1 h2 h3
    have h4 := a2 k cs T mk h1 h2 h3
    exact (hgrow.block k (Array.getElem?_eq_some_iff.1 h4).1 (Ne.symm (a4.apart ⟨mk, h4⟩ (.inl h2)))).trans h4
  · unfold Bx
    rw [hgrow.block p a3.lt (Ne.symm hpp)]
    exact a3
  · rw [if_pos rfl]
    unfold OwnG
    rw [List.map_append, List.length_append]
    exact hown
theorem WE.set5 (h : WE W0 p v W1 L t d0 d3 true false v3 v4 w) (hp : W0.heap.size ≤ p) : WE W0 p v W1 L t d0 d3 true true v3 v4 (w.setCell ⟨p, 0, none⟩ v4) := by
  obtain ⟨a1, a2, a3, a4, a5, a6, a7⟩ := h
  rw [if_pos rfl] at a4
  rw [if_neg (by decide)] at a3
  have hpp : v4.ownBlock ≠ some p := a4.apart (T := 60) ⟨_, a3⟩ (.inl (by decide))
  refine ⟨a1.setCell (p := ⟨p, 0, none⟩) hp _, ?_, ?_, ?_, fun _ e => (by cases e), a6, fun _ => rfl⟩
  · intro k cs T mk h1 h2 h3
    have h4 := a2 k cs T mk h1 h2 h3
    rw [Below.heap_setCell]
    · exact h4
    · rintro rfl
      have := h4.symm.trans a3
      injection this with this
      injection this with _ e5 _
      exact h3 e5
  · rw [if_pos rfl]; exact a3.set 0 v4
  · rw [if_pos rfl]
    exact a4.kept fun g cur hg _ => by
      rw [Below.heap_setCell]
      intro e
      exact hpp (by rw [hg]; exact congrArg some e)
theorem WE.set5b (h : WE W0 p v W1 L t d0 d3 d4 d5 v3 v4 w) (h4 : d4 = true) (h5 : d5 = false) (hp : W0.heap.size ≤ p) : WE W0 p v W1 L t d0 d3 d4 true v3 v4 (w.setCell ⟨p, 0, none⟩ v4) := by
  subst h4; subst h5
  exact h.set5 hp
theorem OwnG.form {B : Nat} {S : List ByteArray} (h : OwnG B w v S) : ∃ a n c, v = .slice a n c := by
  rcases h.2 with ⟨h0, _⟩ | ⟨g, cap, cur, e1, _⟩
  · exact ⟨_, _, _, h0⟩
  · exact ⟨_, _, _, e1⟩
theorem WE.form (h : WE W0 p v W1 L t d0 d3 d4 d5 v3 v4 w) (h4 : d4 = true) : ∃ a n c, v4 = .slice a n c := by
  have := h.own
  rw [if_pos h4] at this
  exact this.form
end
end

section
open Go.RowKit Go.Lib

/-- The words so far, in the box p; the block b is as it was. -/
def Ws (W0 : World) (p : Nat) (W1 : World) (L : List ByteArray) (v : Value) (w : World) : Prop :=
  Below W0.heap.size W0 w ∧ Kp W1 w ∧ Bx w p 60 #[v] ∧ OwnG W0.heap.size w v L
theorem Ws.keep {W0 W1 : World} {p : Nat} {L : List ByteArray} {v : Value} {w w' : World} (h : Ws W0 p W1 L v w) (hb : Below w.heap.size w w') : Ws W0 p W1 L v w' :=
  ⟨h.1.trans (hb.mono h.1.size), h.2.1.trans (Kp.below hb), h.2.2.1.keep hb, h.2.2.2.keep hb⟩
set_option maxRecDepth 100000 in
set_option maxHeartbeats 8000000 in
theorem pg_say (xs : List Nat) (hxs : ∀ k, k < xs.length → xs.getD k 0 < 4294967296) (W0 : World) (E : EnvF W0) (p b o c : Nat) (W1 : World) (hp : W0.heap.size ≤ p)
    (hcs : ∀ w', Below W0.heap.size W0 w' → Kp W1 w' → ∀ k, k < xs.length → w'.cell? ⟨b, o + k, none⟩ = some (.float .f32 (xs.getD k 0))) (L : List ByteArray) (v : Value) (w : World) (h : Ws W0 p W1 L v w) (hL : L.length + xs.length ≤ 1000000) (N : Nat) (hN : xs.length = N) :
    Calls Tryz.prog 75 #[.slice (some ⟨b, o, none⟩) N c, .pointer (some ⟨p, 0, none⟩)] w fun e w' => e = .returned (.tuple #[]) ∧ ∃ v', Ws W0 p W1 (L ++ xs.map textF) v' w' := by
  have HE := Lib.hid E
  have HP := Lib.hid hp
  have HC := Lib.hid (And.intro hcs (And.intro hxs (And.intro hL hN)))
  have HW := Lib.hid h
  clear E hcs hxs hL hN h hp
  go_enter Tryz.func75, Tryz.ntmps75
  go_wp2_with fail
  go_loopw [7] (fun s wr => ∃ (k : Nat) (u : Value), k ≤ N ∧ s = .int .i64 k ∧ Hid (Ws W0 p W1 (L ++ (xs.take k).map textF) u wr)) (fun s _ => (N - (RowKit.intOf s).toNat))
  case atStart => exact ⟨0, v, Nat.zero_le _, rfl, Lib.hid (by rw [List.take_zero, List.map_nil, List.append_nil]; exact HW.out)⟩
  case round =>
    obtain ⟨k, u, hk, rfl, HI⟩ := hrel
    by_cases hlt : k < N
    · have hkl : k < xs.length := by have := HC.out.2.2.2; omega
      obtain ⟨x, hx⟩ : ∃ x, xs.getD k 0 = x := ⟨_, rfl⟩
      have HX : Hid (x < 4294967296) := Lib.hid (hx ▸ HC.out.2.1 k hkl)
      have hcell : wr.cell? ⟨b, o + k, none⟩ = some (.float .f32 x) := by
        rw [HC.out.1 wr HI.out.1 HI.out.2.1 k hkl, hx]
      obtain ⟨M, hM⟩ : ∃ M, L ++ (xs.take k).map textF = M := ⟨_, rfl⟩
      have HI2 : Hid (Ws W0 p W1 M u wr) := Lib.hid (hM ▸ HI.out)
      have HLn : Hid (M.length + 1 ≤ 1000000) := Lib.hid (by rw [← hM, List.length_append, List.length_map, List.length_take]; have := HC.out.2.2.1; omega)
      have HM : Hid (L ++ (xs.take (k + 1)).map textF = M ++ [textF x]) := Lib.hid (by
        rw [← hM, List.take_add_one, List.map_append, ← List.append_assoc, List.getElem?_eq_getElem hkl]
        rw [List.getD_eq_getElem?_getD, List.getElem?_eq_getElem hkl] at hx
        simp only [Option.getD_some] at hx
        rw [hx]; rfl)
      have hd1 : decide ((k : Int) < (N : Int)) = true := decide_eq_true (by omega)
      clear HI hM hx hkl
      have HI := HI2
      clear HI2
      go_upto_region 3 with fail
      refine wp_region_inv 6 (fun q u' => if q = 3 then True else if q = 4 then True else u' = [u, .float .f32 x, .string (textF x), undef, undef, undef].getD q undef) (fun d vs w' => WE W0 p u W1 M (textF x) (d 0) (d 3) (d 4) (d 5) (vs 3) (vs 4) w') (by kernel_rfl) (by kernel_rfl) ?_ ?_ ?_
      · intro vs
        exact WE.keep (w := wr) ⟨HI.out.1, HI.out.2.1, HI.out.2.2.1, HI.out.2.2.2, fun e => (by cases e), fun e => (by cases e), fun e => (by cases e)⟩ ((Below.refl _ _).drew)
      · intro i o hi ho
        rcases (by omega : i = 0 ∨ i = 1 ∨ i = 2 ∨ i = 3 ∨ i = 4 ∨ i = 5) with rfl | rfl | rfl | rfl | rfl | rfl
        all_goals simp only [List.getElem?_cons_zero, List.getElem?_cons_succ, Option.some.injEq] at ho
        all_goals subst ho
        all_goals intro d a0 wx hI hag hdep hun
        · have e0 := slot_eq (hag 1 rfl)
          have h4 : d 4 = false := by
            cases h : d 4
            · rfl
            · have := (hI.o4 h).1; rw [hun] at this; cases this
          have h5 : d 5 = false := by
            cases h : d 5
            · rfl
            · have := hI.o5 h; rw [h4] at this; cases this
          have hq := hI.bx.all.1 0
          rw [h5, if_neg (by decide)] at hq
          exact inv_val (v := u) (by simp [go_sem, e0, hq]) (fun h => (by cases h)) rfl hI.set0
        · have e0 := slot_eq (hag 4 rfl)
          exact inv_val (v := .float .f32 x) (by simp [go_sem, e0]) (fun h => (by cases h)) rfl hI
        · have e0 := slot_eq (hdep ⟨1, .data⟩ (by simp) rfl).1
          refine inv_call (f := 76) (args := #[.float .f32 x]) (run_go_call Tryz.func76 (by kernel_rfl) (by kernel_rfl) _ _ _ _ _ _ _ _ _ _ (by simp [Act.eval, e0])) (fun h => (by cases h)) ?_
          refine (ref_Text x HX.out wx (HE.out.below hI.bel)).mono ?_
          rintro e w' ⟨rfl, hb⟩
          exact ⟨_, rfl, rfl, WE.keep hI hb⟩
        · have e0 := slot_eq (hdep ⟨2, .data⟩ (by simp) rfl).1
          exact inv_val (v := .slice (some ⟨wx.heap.size, 0, none⟩) 1 1) (w' := wx.alloc (.cells #[.string (textF x)] 9)) (by simp [go_sem, e0]) (fun h => (by cases h)) trivial hI.set3
        · have e0 := slot_eq (hdep ⟨0, .data⟩ (by simp) rfl).1
          obtain ⟨gn, e3, x3⟩ := hI.arg (hdep ⟨3, .data⟩ (by simp) rfl).2 hun
          have e1 := slot_eq e3
          have hI2 : WE W0 p u W1 M (textF x) (d 0) (d 3) (d 4) (d 5) (slotOf _ a0 3) (slotOf _ a0 4) wx := hI
          rw [(hdep ⟨0, .data⟩ (by simp) rfl).2, (hdep ⟨3, .data⟩ (by simp) rfl).2, hun] at hI2
          have hO := hI2.own
          rw [if_neg (by decide)] at hO
          obtain ⟨i0, hi0, hz0, hz1, hz2⟩ := info_parts infoG
          have hml : maxLen = 9223372036854775807 := rfl
          have hlen := HLn.out
          refine wp_append_own wx (.tmp 11) (.tmp 14) 60 rfl W0.heap.size 9 i0 (.string ⟨#[]⟩) 1 16 Tryz.underlying60 hi0 hz0 hz1 hz2 rfl (by decide) u M.length (M.map Value.string) (by simp [Act.eval, e0]) hO ⟨gn, 0, none⟩ 1 1 [.string (textF x)] (by simp [Act.eval, e1]) rfl (fun j y hj => ?_) (fun y hy => ?_) (by omega) (by omega) hI.bel.size ?_
          · cases j with
            | zero =>
              simp only [List.getElem?_cons_zero, Option.some.injEq] at hj
              subst hj
              exact x3.all.1 0
            | succ j => simp at hj
          · simp only [List.mem_singleton] at hy
            subst hy
            rfl
          · intro v' w' ho hg _
            refine ⟨v', rfl, fun h => (by cases h), trivial, ?_⟩
            have := hI2.set4 HP.out ho hg
            show WE W0 p u W1 M (textF x) (d 0) (d 3) true (d 5) _ v' w'
            rw [(hdep ⟨0, .data⟩ (by simp) rfl).2, (hdep ⟨3, .data⟩ (by simp) rfl).2]
            exact this
        · have e0 := slot_eq (hag 1 rfl)
          have h4 := (hdep ⟨4, .data⟩ (by simp) rfl).2
          obtain ⟨pa, na, ca, hv4⟩ := hI.form h4
          have e1 := slot_eq hv4
          obtain ⟨qx, fx, _⟩ := hI.bx.all
          have hq := qx 0
          have hf := fx 0
          rw [hun, if_neg (by decide)] at hq
          have hS := hI.set5b h4 hun HP.out
          refine inv_skip (w' := wx.setCell ⟨p, 0, none⟩ (slotOf _ a0 4)) ?_ rfl hS
          rw [hv4]
          clear hS hI hag hdep hv4 qx fx
          simp only [List.getElem?_toArray, List.getElem?_cons_zero] at hq
          simp [go_sem, e0, e1, hq, hf]
      · intro d vs w6 hd hI hA
        have hI6 : WE W0 p u W1 M (textF x) true true true true (vs 3) (vs 4) w6 := by
          have h := hI
          simp only [hd 0 (by omega), hd 3 (by omega), hd 4 (by omega), hd 5 (by omega)] at h
          exact h
        have k0 : vs 0 = u := hA 0 (by omega)
        have k1 : vs 1 = (.float .f32 x) := hA 1 (by omega)
        have k2 : vs 2 = (.string (textF x)) := hA 2 (by omega)
        simp only [putAll, dstAt, List.getElem?_toArray, List.getElem?_cons_zero, List.getElem?_cons_succ, Option.bind_some, Act.put, List.setIfInBounds_toArray, List.set_cons_zero, List.set_cons_succ, k0, k1, k2]
        generalize vs 3 = u3 at *
        generalize vs 4 = u4 at *
        have HN := Lib.hid (And.intro hI6.bel (And.intro hI6.kp (And.intro hI6.bx hI6.own)))
        clear hI hA hd k0 k1 k2 hI6
        have HK := Lib.hid (And.intro hlt HN.out)
        have hk6 : k < 1000000 := by have h1 := HC.out.2.2.1; have h2 := HC.out.2.2.2; omega
        clear hd1 hlt hcell
        go_wp2_with fail
        go_roundw
        case rel => exact ⟨k + 1, _, Nat.succ_le_of_lt HK.out.1, by go_num, Lib.hid (by rw [HM.out]; exact HN.out)⟩
        case measure => have := HK.out.1; simp [RowKit.intOf]; omega
    · obtain rfl : k = N := by omega
      have hd1 : decide ((k : Int) < (k : Int)) = false := decide_eq_false (by omega)
      go_wp2_with fail
      go_end0
      refine ⟨rfl, u, ?_⟩
      have := HI.out
      rw [← HC.out.2.2.2, List.take_length] at this
      exact this
end

section
open Go.RowKit Go.Lib

theorem infoGF : (Tryz.prog.info? 23).map (fun i => (i.zero, i.size, i.bytes)) = some (some (.float .f32 0), 1, 4) := by kernel_rfl
def OwF (B : Nat) (w : World) (v : Value) (xs : List Nat) : Prop := w.ownsRow B 23 1 v xs.length (xs.map (Value.float .f32))
theorem OwF.keep {B : Nat} {w w' : World} {v : Value} {S : List Nat} (h : OwF B w v S) (hb : Below w.heap.size w w') : OwF B w' v S := by
  refine ⟨h.1, ?_⟩
  rcases h.2 with h0 | ⟨g, cap, cur, e1, e2, e3, e4⟩
  · exact .inl h0
  · exact .inr ⟨g, cap, cur, e1, e2, (hb.block g (Array.getElem?_eq_some_iff.1 e3).1).trans e3, e4⟩
theorem OwF.mono {B B' : Nat} {w : World} {v : Value} {S : List Nat} (h : OwF B w v S) (hb : B' ≤ B) : OwF B' w v S := by
  refine ⟨h.1, ?_⟩
  rcases h.2 with h0 | ⟨g, cap, cur, e1, e2, e3⟩
  · exact .inl h0
  · exact .inr ⟨g, cap, cur, e1, Nat.le_trans hb e2, e3⟩
theorem fl_append {B : Nat} {w : World} {L K : List Nat} {v : Value} {ops : Array Oper} {rest : List Oper} {o : Oper} {a : Act} {Q : Exit → Act → World → Prop} (hgd : o.guard = none) (s x : Operand)
    (ho : o.op = .call { callee := .builtin .append, args := #[s, x], argTypes := #[37, 37] }) (hs : a.eval s = v) (ad : Addr) (m c : Nat) (hx : a.eval x = .slice (some ad) m c) (hmK : m = K.length) (hm : OwF B w v L)
    (hc : ∀ (j : Nat) (u : Value), (K.map (Value.float .f32))[j]? = some u → w.cell? (ad.add j) = some u) (hl : L.length + K.length ≤ 1000000000) (hB : B ≤ w.heap.size)
    (h : ∀ v' w', OwF B w' v' (L ++ K) → (∀ B0 W0, B0 ≤ B → Below B0 W0 w → Below B0 W0 w') → wpList Tryz.prog ops Q rest (a.put o.dst v') w') :
    wpList Tryz.prog ops Q (o :: rest) a w := by
  subst hmK
  obtain ⟨i0, hi, hz0, hz1, hz2⟩ := info_parts infoGF
  have hml : maxLen = 9223372036854775807 := rfl
  refine wpList_append_own w hgd s x 37 ho B 23 i0 (.float .f32 0) 1 4 Tryz.underlying37 hi hz0 hz1 hz2 rfl (by decide) v L.length (L.map (Value.float .f32)) hs hm ad K.length c (K.map (Value.float .f32)) hx (by rw [List.length_map, Nat.mul_one]) hc ?_ (by omega) (by omega) hB ?_
  · intro u hu
    obtain ⟨p, _, rfl⟩ := List.mem_map.1 hu
    rfl
  · intro v' w' hown hgrow _
    refine h _ w' ?_ (fun B0 W0 hB0 hb => ?_)
    · unfold OwF
      rw [List.map_append, List.length_append]; exact hown
    · refine hb.grown hgrow (by omega) (fun k hk => ?_)
      have := (World.ownsRow.lt hm k hk).1
      omega
set_option maxRecDepth 100000 in
set_option maxHeartbeats 2000000 in
theorem slices_GrowF (n : Nat) (W : World) (h0 : 0 < n) (h1 : n ≤ 1000000) : Calls Tryz.prog 115 #[.slice none 0 0, .int .i64 (n : Int)] W fun e w' => ∃ v, e = .returned v ∧ OwF W.heap.size w' v [] ∧ Below W.heap.size W w' := by
  obtain ⟨i0, hi, hz0, hz1, hz2⟩ := info_parts infoGF
  have hold : (Builtin.firstCells i0.size 0 (.slice none 0 0)).run Tryz.prog W.drew = .ok ([] : List Value).toArray W.drew := run_firstCells_none W.drew i0.size 0 0 0
  have hfit : Builtin.nextslicecap (0 + n) 0 * i0.bytes ≤ 281474976710656 := growslice_fits (by omega) (by rw [hz2]; omega)
  have hr := fun ty => Lib.run_append_grow_zeros W 37 3 ty 23 i0 _ .i64 .i64 Tryz.underlying37 Tryz.underlying3 hi hz0 none 0 0 [] hold n h0 (by rw [hz1]; decide) (by omega) (by omega) (by rw [hz2]; omega) hfit
  have hGn : 0 + n ≤ grownCap W (0 + n) 0 23 := grownCap_ge W _ _ _
  have hG63 := grownCap_le_maxLen W (0 + n) 0 23 (by unfold maxLen; omega)
  rw [Nat.zero_add] at hr hGn hG63
  generalize grownCap W n 0 23 = G at *
  unfold maxLen at hG63
  clear hold hfit
  go_enter Tryz.func115, Tryz.ntmps115
  go_wp2_with (at_builtin; refine Lib.wpList_append_run _ rfl _ _ _ _ rfl _ _ rfl rfl _ _ (hr _) ?_)
  go_ret
  refine ⟨_, rfl, ?_, ?_⟩
  · refine OwF.keep (w := W.alloc _) ?_ (below_drewN (Below.refl _ _) 1)
    exact World.ownsRow_made W _ G (Nat.le_refl _) (by unfold maxLen; omega) (by rw [Array.size_append, size_zeroCells, size_zeroCells]; show n * 1 + (G - n) * 1 = G * 1; omega)
  · exact below_drewN (bnew (Below.refl _ W)) 1
end

section
open Go.RowKit Go.Lib

/-- A slice handed over: block, offset, capacity, values. -/
structure SlF where
  g : Nat
  o : Nat
  c : Nat
  xs : List Nat
def SlF.v (r : SlF) : Value := .slice (some ⟨r.g, r.o, none⟩) r.xs.length r.c
def flatS (rows : List SlF) : List Nat := rows.flatMap SlF.xs
theorem flatS_snoc (l : List SlF) (r : SlF) : flatS (l ++ [r]) = flatS l ++ r.xs := by simp [flatS]
theorem flatS_take_le (rows : List SlF) (k : Nat) : (flatS (rows.take k)).length ≤ (flatS rows).length := by
  have h : flatS rows = flatS (rows.take k) ++ flatS (rows.drop k) := by
    unfold flatS
    rw [← List.flatMap_append, List.take_append_drop]
  rw [h, List.length_append]; omega
theorem flatS_next {rows : List SlF} {k : Nat} {r : SlF} (h : rows[k]? = some r) : flatS (rows.take (k + 1)) = flatS (rows.take k) ++ r.xs := by
  rw [List.take_add_one, h]
  exact flatS_snoc _ r
set_option maxRecDepth 100000 in
set_option maxHeartbeats 8000000 in
theorem slices_ConcatF {bs : Nat} {T : TypeId} (rows : List SlF) (K : Nat) (W : World) (hx : Bx W bs T (rows.map SlF.v).toArray) (hK : rows.length = K) (hK2 : K ≤ 100)
    (hrd : ∀ (k : Nat) (r : SlF), rows[k]? = some r → r.g < W.heap.size ∧ ∀ (j : Nat) (u : Value), (r.xs.map (Value.float .f32))[j]? = some u → W.cell? ((⟨r.g, r.o, none⟩ : Addr).add j) = some u) (hpos : 0 < (flatS rows).length) (hle : (flatS rows).length ≤ 1000000) :
    Calls Tryz.prog 77 #[.slice (some ⟨bs, 0, none⟩) K K] W fun e w' => ∃ v, e = .returned v ∧ OwF W.heap.size w' v (flatS rows) ∧ Below W.heap.size W w' := by
  have HK := Lib.hid hK
  have HR := Lib.hid hrd
  have HP := Lib.hid (And.intro hpos hle)
  have X := Lib.hid hx
  have hcell : ∀ k r, rows[k]? = some r → ∀ w, Below W.heap.size W w → w.cell? ⟨bs, k, none⟩ = some r.v := fun k r hr w hb => by
    rw [(hx.keep hb).all.1 k]
    simp [hr]
  have HCe := Lib.hid hcell
  have hbl := hx.lt
  clear hK hrd hpos hle hx hcell
  go_enter Tryz.func77, Tryz.ntmps77
  go_wp2_with fail
  go_loopw [3, 11] (fun s3 i wr => ∃ k : Nat, k ≤ K ∧ i = .int .i64 k ∧ s3 = .int .i64 ((flatS (rows.take k)).length : Int) ∧ Hid (Below W.heap.size W wr)) (fun _ i _ => K - (RowKit.intOf i).toNat)
  case atStart => exact ⟨0, Nat.zero_le _, rfl, rfl, Lib.hid (Below.refl _ _)⟩
  case round =>
    obtain ⟨k, hk, rfl, rfl, HB⟩ := hrel
    by_cases hlt : k < K
    · obtain ⟨r, hr⟩ : ∃ r, rows[k]? = some r := ⟨_, List.getElem?_eq_getElem (by have := HK.out; omega)⟩
      have hq := HCe.out k r hr wr HB.out
      have hnx := congrArg List.length (flatS_next hr)
      rw [List.length_append] at hnx
      have hle2 := flatS_take_le rows (k + 1)
      obtain ⟨m, hm⟩ : ∃ m, (flatS (rows.take k)).length = m := ⟨_, rfl⟩
      obtain ⟨m', hm'⟩ : ∃ m, (flatS (rows.take (k + 1))).length = m := ⟨_, rfl⟩
      obtain ⟨n, hn⟩ : ∃ n, r.xs.length = n := ⟨_, rfl⟩
      unfold SlF.v at hq
      rw [hm, hm', hn] at hnx
      rw [hm'] at hle2
      rw [hn] at hq
      rw [hm]
      have HP2 := HP.out.2
      have hd1 : decide ((k : Int) < (K : Int)) = true := decide_eq_true (by omega)
      have hw1 : IntKind.i64.wrap ((m : Int) + (n : Int)) = (m' : Int) := by rw [IntKind.wrap_i64]; omega
      have hd2 : decide ((m' : Int) < 0) = false := decide_eq_false (by omega)
      have HH := Lib.hid (And.intro hlt (And.intro hm' HB.out))
      clear hm hm' hn hr hnx hle2 HP2
      go_wp2_with fail
      go_roundw
      case rel => exact ⟨k + 1, by have := HH.out.1; omega, by go_num, by rw [HH.out.2.1], Lib.hid HH.out.2.2⟩
      case measure => have := HH.out.1; simp [RowKit.intOf]; omega
    · obtain rfl : k = K := by omega
      have hd1 : decide ((k : Int) < (k : Int)) = false := decide_eq_false (by omega)
      have ht : rows.take k = rows := by rw [← HK.out, List.take_length]
      rw [ht]
      obtain ⟨m, hm⟩ : ∃ m, (flatS rows).length = m := ⟨_, rfl⟩
      have hpm : 0 < m ∧ m ≤ 1000000 := by have := HP.out; omega
      rw [hm]
      have hd2 : decide ((k : Int) < 0) = false := decide_eq_false (by omega)
      have Hm := Lib.hid (And.intro hm hpm)
      clear hm hpm ht
      go_wp2_with fail
      refine (slices_GrowF m _ Hm.out.2.1 Hm.out.2.2).mono ?_
      rintro e w2 ⟨v, rfl, ho, hb⟩
      have HO := Lib.hid (And.intro (ho.mono HB.out.size) (HB.out.trans (hb.mono HB.out.size)))
      clear ho hb HB hd1 hd2 hk
      go_wp2_with fail
      go_loopw [6, 27] (fun s6 i wr => ∃ j : Nat, j ≤ k ∧ i = .int .i64 j ∧ Hid (OwF W.heap.size wr s6 (flatS (rows.take j)) ∧ Below W.heap.size W wr)) (fun _ i _ => k - (RowKit.intOf i).toNat)
      case atStart => exact ⟨0, Nat.zero_le _, rfl, Lib.hid HO.out⟩
      case round =>
        obtain ⟨j, hj, rfl, HI⟩ := hrel
        by_cases hlt : j < k
        · obtain ⟨r, hr⟩ : ∃ r, rows[j]? = some r := ⟨_, List.getElem?_eq_getElem (by have := HK.out; omega)⟩
          have hq := HCe.out j r hr wr HI.out.2
          unfold SlF.v at hq
          have hd1 : decide ((j : Int) < (k : Int)) = true := decide_eq_true (by omega)
          have hd3 : decide (j < k) = true := decide_eq_true hlt
          have HH := Lib.hid (And.intro hlt hr)
          clear hr
          go_upto_region 13 with fail
          go_wp2_with (at_builtin; refine fl_append (B := W.heap.size) rfl (.tmp 31) (.tmp 32) rfl rfl ⟨r.g, r.o, none⟩ r.xs.length r.c rfl rfl HI.out.1 ?ca ?cl HI.out.2.size ?cb)
          case ca =>
            intro q u hu
            obtain ⟨hg, hc⟩ := HR.out j r HH.out.2
            have := hc q u hu
            rw [HI.out.2.cell (p := (⟨r.g, r.o, none⟩ : Addr).add q) (by unfold Addr.add; split <;> exact hg)]
            exact this
          case cl =>
            have h1 := flatS_take_le rows (j + 1)
            rw [flatS_next HH.out.2, List.length_append] at h1
            have := HP.out.2
            omega
          intro v5 w5 ho5 hb5
          have HO5 := Lib.hid (And.intro ho5 (hb5 _ _ (Nat.le_refl _) HI.out.2))
          clear ho5 hb5 hq hd1 hd3 hlt
          go_wp2_with fail
          go_roundw
          case rel => exact ⟨j + 1, by have := HH.out.1; omega, by go_num, Lib.hid ⟨by rw [flatS_next HH.out.2]; exact HO5.out.1, HO5.out.2⟩⟩
          case measure => have := HH.out.1; simp [RowKit.intOf]; omega
        · obtain rfl : j = k := by omega
          have hd1 : decide ((j : Int) < (j : Int)) = false := decide_eq_false (by omega)
          have hd3 : decide (j < j) = false := decide_eq_false (by omega)
          have ht : rows.take j = rows := by rw [← HK.out, List.take_length]
          rw [ht] at HI
          go_wp2_with fail
          go_ret
          exact ⟨_, rfl, HI.out.1, HI.out.2⟩
end

section
open Go.RowKit Go.Lib

def kindW : List ByteArray := [⟨#[]⟩, ⟨#[119, 104, 101, 101, 108, 115]⟩, ⟨#[108, 105, 115, 116]⟩, ⟨#[99, 117, 114, 118, 101, 115]⟩, ⟨#[109, 105, 120, 101, 114]⟩, ⟨#[99, 111, 110, 116, 114, 97, 115, 116]⟩, ⟨#[112, 114, 105, 110, 116, 101, 114]⟩]
theorem ref_gradeWords (W : World) : Calls Tryz.prog 74 #[] W fun e w' => e = .returned (.slice (some ⟨W.heap.size, 0, none⟩) 7 7) ∧ Bx w' W.heap.size 9 (kindW.map Value.string).toArray ∧ Below W.heap.size W w' := by
  go_enter Tryz.func74, Tryz.ntmps74
  go_wp2_with fail
  go_ret
  exact ⟨rfl, Bx.new _ _ _, bnew (Below.refl _ _)⟩
def itoaB (n : Int) : ByteArray := ⟨(Lib.itoa n).toArray⟩
theorem sc_Itoa (n : Int) (h : -9223372036854775808 ≤ n ∧ n ≤ 9223372036854775807) (w : World) (E : EnvF w) : Calls Tryz.prog 78 #[.int .i64 n] w fun e w' => e = .returned (.string (itoaB n)) ∧ Below w.heap.size w w' := by
  refine (Tryz.strconv_Itoa n h.1 h.2 w E.p10).mono ?_
  rintro e w' ⟨rfl, k, os, rfl⟩
  exact ⟨rfl, Lib.below_grow _ _ (Nat.le_refl _) _ _⟩
/-- Words with a space between. -/
def spaced (S : List ByteArray) : ByteArray := ⟨(Lib.join (S.map (·.data.toList)) [32]).toArray⟩
theorem own_Join {B : Nat} {w : World} {v : Value} {S : List ByteArray} (h : OwnG B w v S) (h1 : S ≠ []) (h2 : S.length ≤ 1000000) (hlen : (Lib.join (S.map (·.data.toList)) [32]).length ≤ 140737488355328) :
    Calls Tryz.prog 79 #[v, .string ⟨#[32]⟩] w fun e w' => e = .returned (.string (spaced S)) ∧ Below w.heap.size w w' := by
  rcases h.2 with ⟨_, h0⟩ | ⟨g, cap, cur, e1, e2, e3, e4, e5, e6, e7⟩
  · exact absurd (List.length_eq_zero_iff.1 h0) h1
  · rw [e1]
    refine (Tryz.strings_Join g 0 cap S ⟨#[32]⟩ w (fun j x hj => ?_) (Array.getElem?_eq_some_iff.1 e3).1 (by omega) e4 hlen).mono ?_
    · rw [Nat.zero_add, cell_of_row w g j cur _ (0, 0) e3]
      have hq : (S.map Value.string)[j]? = some (.string x) := by rw [List.getElem?_map, hj]; rfl
      rw [← e7, List.getElem?_take] at hq
      split at hq
      · rw [Array.getElem?_toList] at hq; exact hq
      · cases hq
    · rintro e w' ⟨rfl, hb⟩
      exact ⟨rfl, hb⟩
end

section
open Go.RowKit Go.Lib

structure Cv where
  kind : Int
  xs : List Nat
  ys : List Nat
/-- A grade's values. The lists whe, lst, mix, pts and cvs have 9, 10, 12, 3 and 4 values. -/
structure Gd where
  kind : Int
  whe : List Nat
  lst : List Nat
  cvs : List Cv
  mix : List Nat
  piv : Nat
  amt : Nat
  pts : List Int
def curveW : List ByteArray := [⟨#[]⟩, ⟨#[108, 105, 110, 101, 97, 114]⟩, ⟨#[115, 109, 111, 111, 116, 104]⟩]
/-- The first k points of a curve. -/
def pairW (xs ys : List Nat) (k : Nat) : List ByteArray := (List.range k).flatMap fun i => [textF (xs.getD i 0), textF (ys.getD i 0)]
theorem pairW_succ (xs ys : List Nat) (k : Nat) : pairW xs ys (k + 1) = pairW xs ys k ++ [textF (xs.getD k 0), textF (ys.getD k 0)] := by
  unfold pairW
  rw [List.range_succ, List.flatMap_append]
  simp
def cvW (c : Cv) : List ByteArray := if c.xs.length = 0 then [⟨#[45]⟩] else curveW.getD c.kind.toNat ⟨#[]⟩ :: itoaB c.xs.length :: pairW c.xs c.ys c.xs.length
def bodyW (g : Gd) : List ByteArray :=
  if g.kind = 1 then g.whe.map textF else if g.kind = 2 then g.lst.map textF else if g.kind = 3 then g.cvs.flatMap cvW
  else if g.kind = 4 then g.mix.map textF else if g.kind = 5 then [textF g.piv, textF g.amt] else if g.kind = 6 then g.pts.map itoaB else []
def wordsG (g : Gd) : List ByteArray := kindW.getD g.kind.toNat ⟨#[]⟩ :: bodyW g
def lineG (g : Gd) : ByteArray := spaced (wordsG g) ++ ⟨#[10]⟩
/-- The cells C are the grade g's, in the memory w. -/
structure GdAt (w : World) (C : Array Value) (g : Gd) : Prop where
  size : C.size = 49
  one : C.all (·.oneCell') = true
  kind : C[0]? = some (.int .i64 g.kind)
  whe : g.whe.length = 9 ∧ ∀ i, i < 9 → C[1 + i]? = some (.float .f32 (g.whe.getD i 0))
  lst : g.lst.length = 10 ∧ ∀ i, i < 10 → C[10 + i]? = some (.float .f32 (g.lst.getD i 0))
  cvs : g.cvs.length = 4 ∧ ∀ (i : Nat) (c : Cv), g.cvs[i]? = some c → C[20 + 3 * i]? = some (.int .i64 c.kind) ∧ (∃ vx, C[21 + 3 * i]? = some vx ∧ Sl w vx c.xs) ∧ ∃ vy, C[22 + 3 * i]? = some vy ∧ Sl w vy c.ys
  mix : g.mix.length = 12 ∧ ∀ i, i < 12 → C[32 + i]? = some (.float .f32 (g.mix.getD i 0))
  piv : C[44]? = some (.float .f32 g.piv)
  amt : C[45]? = some (.float .f32 g.amt)
  pts : g.pts.length = 3 ∧ ∀ i, i < 3 → C[46 + i]? = some (.int .i64 (g.pts.getD i 0))
end
end Go.Proofs.YticekgnmiaidjaaGreatDoor
