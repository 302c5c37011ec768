/- Frames that the call gathers; slices.Grow and slices.Concat at frames. -/
import Derived.Test.YtccbhghpghijiaaJnF
import Derived.OwnWalk
import Derived.Lib.AppendZerosOnto
import Derived.Lib.Walk
import Derived.Lib.SliceRun
namespace Go.Proofs.Ytccbhghpghijiaa
open Go.RowKit

def frC (f : Fr) : List Value := [.int .i64 f.x, .int .i64 f.y, .int .i64 f.w, .int .i64 f.h, f.pv]
def frCells (L : List Fr) : List Value := L.flatMap frC
theorem frCells_append (L K : List Fr) : frCells (L ++ K) = frCells L ++ frCells K := by unfold frCells; rw [List.flatMap_append]
theorem frCells_len (L : List Fr) : (frCells L).length = L.length * 5 := by
  induction L with
  | nil => rfl
  | cons a r ih => show (frC a ++ frCells r).length = _; rw [List.length_append, ih, List.length_cons]; simp [frC]; omega
theorem frCells_get {L : List Fr} {k i : Nat} (hk : k < L.length) (hi : i < 5) : (frCells L)[k * 5 + i]? = (frC (L.getD k default))[i]? := by
  induction L generalizing k with
  | nil => simp at hk
  | cons a r ih =>
    show (frC a ++ frCells r)[k * 5 + i]? = _
    have hl : (frC a).length = 5 := rfl
    cases k with
    | zero => rw [List.getElem?_append_left (by rw [hl]; omega)]; simp
    | succ k =>
      rw [List.getElem?_append_right (by rw [hl]; omega), hl, show (k + 1) * 5 + i - 5 = k * 5 + i by omega, ih (by simpa using hk)]
      simp
theorem frCells_one {L : List Fr} : ∀ u ∈ frCells L, u.oneCell' = true := by
  intro u hu
  unfold frCells at hu
  rw [List.mem_flatMap] at hu
  obtain ⟨f, _, hf⟩ := hu
  simp only [frC, List.mem_cons, List.mem_nil_iff, or_false] at hf
  rcases hf with rfl | rfl | rfl | rfl | rfl <;> rfl
theorem infoFr : (Try.prog.info? 26).map (fun i => (i.zero, i.size, i.bytes)) = some (some (.agg #[.int .i64 0, .int .i64 0, .int .i64 0, .int .i64 0, .slice none 0 0]), 5, 56) := by kernel_rfl
/-- v is a slice of the call's own that reads as the frames L. -/
def OutF (B : Nat) (w : World) (v : Value) (L : List Fr) : Prop := w.ownsRow B 26 5 v L.length (frCells L)
theorem OutF.below {B : Nat} {w w' : World} {v : Value} {L : List Fr} (h : OutF B w v L) (hb : Below w.heap.size w w') : OutF B w' v L := by
  refine ⟨h.1, ?_⟩
  rcases h.2 with h0 | ⟨g, cap, cur, e1, e2, e3, e4⟩
  · exact .inl h0
  · exact .inr ⟨g, cap, cur, e1, e2, (hb.block g (Array.getElem?_eq_some_iff.1 e3).1).trans e3, e4⟩
theorem OutF.nil (B : Nat) (w : World) : OutF B w (.slice none 0 0) [] := World.ownsRow_nil _ _ _ _
theorem OutF.form {B : Nat} {w : World} {v : Value} {L : List Fr} (h : OutF B w v L) : (L = [] ∧ v = .slice none 0 0) ∨ ∃ g cap, v = .slice (some ⟨g, 0, none⟩) L.length cap ∧ B ≤ g ∧ g < w.heap.size ∧ L.length ≤ cap ∧ cap ≤ maxLen ∧ ∀ j u, (frCells L)[j]? = some u → w.cell? ⟨g, j, none⟩ = some u := by
  rcases h.2 with ⟨h0, h1⟩ | ⟨g, cap, cur, e1, e2, e3, e4, e5, e6, e7⟩
  · left; exact ⟨List.eq_nil_of_length_eq_zero h1, h0⟩
  · subst e1
    refine .inr ⟨g, cap, rfl, e2, (Array.getElem?_eq_some_iff.1 e3).1, e4, e5, fun j u hj => ?_⟩
    have hlt := (List.getElem?_eq_some_iff.1 hj).1
    rw [World.ownsRow.cellAt h j (by rw [frCells_len] at hlt; omega)]
    exact hj
theorem fr_append {B : Nat} {w : World} {L K : List Fr} {v : Value} {ops : Array Oper} {rest : List Oper} {o : Oper} {a : Act} {Q : Exit → Act → World → Prop} (hgd : o.guard = none) (s z : Operand)
    (ho : o.op = .call { callee := .builtin .append, args := #[s, z], argTypes := #[27, 27] }) (hs : a.eval s = v) (ad : Addr) (m c : Nat) (hx : a.eval z = .slice (some ad) m c) (hmK : m = K.length) (hm : OutF B w v L)
    (hc : ∀ j u, (frCells K)[j]? = some u → w.cell? (ad.add j) = some u) (hl : L.length + K.length ≤ 1000000) (hB : B ≤ w.heap.size)
    (h : ∀ v' w', OutF B w' v' (L ++ K) → (∀ B0 W0, B0 ≤ B → Below B0 W0 w → Below B0 W0 w') → wpList Try.prog ops Q rest (a.put o.dst v') w') :
    wpList Try.prog ops Q (o :: rest) a w := by
  subst hmK
  obtain ⟨i0, hi, hz0, hz1, hz2⟩ := info_parts infoFr
  have hml : maxLen = 9223372036854775807 := rfl
  refine wpList_append_own w hgd s z 27 ho B 26 i0 (.agg #[.int .i64 0, .int .i64 0, .int .i64 0, .int .i64 0, .slice none 0 0]) 5 56 Try.underlying27 hi hz0 hz1 hz2 rfl (by decide) v L.length (frCells L) hs hm ad K.length c (frCells K) hx (frCells_len K) hc frCells_one (by omega) (by omega) hB ?_
  intro v' w' hown hgrow _
  refine h v' w' ?_ (fun B0 W0 hB0 hb => ?_)
  · unfold OutF
    rw [frCells_append, List.length_append]
    exact hown
  · refine hb.grown hgrow (by omega) (fun k hk => ?_)
    rcases hm.2 with ⟨h0, _⟩ | ⟨g1, cap1, cur, e1, e2, e3, _⟩
    · rw [h0] at hk; cases hk
    · rw [e1] at hk
      simp only [Value.ownBlock, Option.some.injEq] at hk
      omega
set_option maxRecDepth 100000 in
set_option maxHeartbeats 2000000 in
theorem slices_GrowF (n : Nat) (W : World) (h0 : 0 < n) (h1 : n ≤ 1000) : Calls Try.prog 28 #[.slice none 0 0, .int .i64 (n : Int)] W fun e w' => ∃ v, e = .returned v ∧ OutF W.heap.size w' v [] ∧ Below W.heap.size W w' := by
  obtain ⟨i0, hi, hz0, hz1, hz2⟩ := info_parts infoFr
  have hold : (Builtin.firstCells i0.size 0 (.slice none 0 0)).run Try.prog W.drew = .ok ([] : List Value).toArray W.drew := run_firstCells_none W.drew i0.size 0 0 0
  have hfit : Builtin.nextslicecap (0 + n) 0 * i0.bytes ≤ 281474976710656 := growslice_fits (by omega) (by rw [hz2]; omega)
  have hr := fun ty => Lib.run_append_grow_zeros W 27 3 ty 26 i0 _ .i64 .i64 Try.underlying27 Try.underlying3 hi hz0 none 0 0 [] hold n h0 (by rw [hz1]; decide) (by omega) (by omega) (by rw [hz2]; omega) hfit
  have hGn : 0 + n ≤ grownCap W (0 + n) 0 26 := grownCap_ge W _ _ _
  have hG63 := grownCap_le_maxLen W (0 + n) 0 26 (by unfold maxLen; omega)
  rw [Nat.zero_add] at hr hGn hG63
  generalize grownCap W n 0 26 = G at *
  unfold maxLen at hG63
  clear hold hfit
  go_enter Try.func28, Try.ntmps28
  go_wp2_with (at_builtin; refine Lib.wpList_append_run _ rfl _ _ _ _ rfl _ _ rfl rfl _ _ (hr _) ?_)
  go_ret
  refine ⟨_, rfl, ?_, ?_⟩
  · refine OutF.below (w := W.alloc _) ?_ (below_drewN (Below.refl _ _) 1)
    exact World.ownsRow_made W _ G (Nat.le_refl _) (by unfold maxLen; omega) (by rw [Array.size_append, size_zeroCells, size_zeroCells]; show n * 5 + (G - n) * 5 = G * 5; omega)
  · exact below_drewN (bnew (Below.refl _ W)) 1
/-- From address a on lie the frames L. -/
def RowF (w : World) (a : Addr) (L : List Fr) : Prop := a.block < w.heap.size ∧ ∀ j u, (frCells L)[j]? = some u → w.cell? (a.add j) = some u
theorem RowF.keep {w w' : World} {a : Addr} {L : List Fr} (h : RowF w a L) (hb : Below w.heap.size w w') : RowF w' a L :=
  ⟨Nat.lt_of_lt_of_le h.1 hb.size, fun j u hj => by rw [hb.cell (p := a.add j) (by have := h.1; unfold Addr.add; split <;> exact this)]; exact h.2 j u hj⟩
set_option maxRecDepth 100000 in
set_option maxHeartbeats 4000000 in
theorem slices_ConcatF {bs : Nat} {T : TypeId} (g1 o1 g2 o2 n1 c1 n2 c2 : Nat) (L1 L2 : List Fr) (W : World) (hx : Bx W bs T #[.slice (some ⟨g1, o1, none⟩) n1 c1, .slice (some ⟨g2, o2, none⟩) n2 c2]) (h1 : n1 = L1.length) (h2 : n2 = L2.length)
    (r1 : RowF W ⟨g1, o1, none⟩ L1) (r2 : RowF W ⟨g2, o2, none⟩ L2) (hpos : 0 < n1 + n2) (hle : n1 + n2 ≤ 1000) :
    Calls Try.prog 11 #[.slice (some ⟨bs, 0, none⟩) 2 2] W fun e w' => ∃ v, e = .returned v ∧ OutF W.heap.size w' v (L1 ++ L2) ∧ Below W.heap.size W w' := by
  have H1 := Lib.hid h1
  have H2 := Lib.hid h2
  have R1 := Lib.hid r1
  have R2 := Lib.hid r2
  have hbl := hx.lt
  obtain ⟨q, f, l⟩ := hx.all
  have X := Lib.hid hx
  clear h1 h2 r1 r2 hx
  go_enter Try.func11, Try.ntmps11
  go_wp2_with fail
  go_loopw [3, 11] (fun s3 i wr => ((i = .int .i64 0 ∧ s3 = .int .i64 0) ∨ (i = .int .i64 1 ∧ s3 = .int .i64 (n1 : Int)) ∨ (i = .int .i64 2 ∧ s3 = .int .i64 ((n1 + n2 : Nat) : Int))) ∧ Below W.heap.size W wr) (fun _ i _ => 2 - (intOf i).toNat)
  case atStart => exact ⟨.inl ⟨rfl, rfl⟩, Below.refl _ _⟩
  case round =>
    clear q f l
    obtain ⟨hrel, B⟩ := hrel
    have xk := X.out.keep B
    obtain ⟨q, f, l⟩ := xk.all
    rcases hrel with ⟨rfl, rfl⟩ | ⟨rfl, rfl⟩ | ⟨rfl, rfl⟩
    · go_wp2_with fail
      go_roundw
      case rel => exact ⟨.inr (.inl ⟨rfl, by simp⟩), B⟩
      case measure => simp [intOf]
    · go_wp2_with fail
      go_roundw
      case rel => exact ⟨.inr (.inr ⟨rfl, by simp⟩), B⟩
      case measure => simp [intOf]
    · go_wp2_with fail
      refine (slices_GrowF (n1 + n2) _ hpos hle).mono ?_
      rintro e w2 ⟨v, rfl, ho, hb⟩
      have hsz := B.size
      have B2 := bcall B hb
      have Ho : Hid (OutF W.heap.size w2 v []) := Lib.hid (by
        refine ⟨ho.1, ?_⟩
        rcases ho.2 with h0 | ⟨g, cap, cur, e1, e2, e3⟩
        · exact .inl h0
        · exact .inr ⟨g, cap, cur, e1, by omega, e3⟩)
      clear hb ho q f l xk B
      have xk := X.out.keep B2
      obtain ⟨q, f, l⟩ := xk.all
      go_wp2_with fail
      go_loopw [6, 27] (fun s6 i wr => ((i = .int .i64 0 ∧ OutF W.heap.size wr s6 []) ∨ (i = .int .i64 1 ∧ OutF W.heap.size wr s6 L1) ∨ (i = .int .i64 2 ∧ OutF W.heap.size wr s6 (L1 ++ L2))) ∧ Below W.heap.size W wr) (fun _ i _ => 2 - (intOf i).toNat)
      case atStart => exact ⟨.inl ⟨rfl, Ho.out⟩, B2⟩
      case round =>
        clear q f l Ho xk B2
        obtain ⟨hrel, B⟩ := hrel
        have xk := X.out.keep B
        have hsz2 := B.size
        obtain ⟨q, f, l⟩ := xk.all
        rcases hrel with ⟨rfl, ho⟩ | ⟨rfl, ho⟩ | ⟨rfl, ho⟩
        · go_upto_region 13 with fail
          go_wp2_with (at_builtin; refine fr_append (B := W.heap.size) rfl (.tmp 31) (.tmp 32) rfl rfl ⟨g1, o1, none⟩ n1 c1 rfl H1.out ho (R1.out.keep B).2 ?ca1 hsz2 ?ca2)
          case ca1 => rw [← H1.out]; simp; omega
          intro v5 w5 ho5 hb5
          have hb5 := hb5 _ _ (Nat.le_refl _) B
          have HO5 : Hid (OutF W.heap.size w5 v5 L1) := Lib.hid ho5
          clear ho5 q f l xk
          go_wp2_with fail
          go_roundw
          case rel => exact ⟨.inr (.inl ⟨rfl, HO5.out⟩), hb5⟩
          case measure => simp [intOf]
        · go_upto_region 13 with fail
          go_wp2_with (at_builtin; refine fr_append (B := W.heap.size) rfl (.tmp 31) (.tmp 32) rfl rfl ⟨g2, o2, none⟩ n2 c2 rfl H2.out ho (R2.out.keep B).2 ?cb1 hsz2 ?cb2)
          case cb1 => rw [← H1.out, ← H2.out]; omega
          intro v5 w5 ho5 hb5
          have hb5 := hb5 _ _ (Nat.le_refl _) B
          have HO5 : Hid (OutF W.heap.size w5 v5 (L1 ++ L2)) := Lib.hid ho5
          clear ho5 q f l xk
          go_wp2_with fail
          go_roundw
          case rel => exact ⟨.inr (.inr ⟨rfl, HO5.out⟩), hb5⟩
          case measure => simp [intOf]
        · have HO := Lib.hid ho
          clear ho
          go_wp2_with fail
          go_ret
          exact ⟨_, rfl, HO.out, B⟩
end Go.Proofs.Ytccbhghpghijiaa
