/- The first word of a printed grade: what a drawn region of eight operations keeps. -/
import Derived.Test.YticekgnmiaidjaaGreatDoorGrP
import Derived.Deep.WholeRow
namespace Go.Proofs.YticekgnmiaidjaaGreatDoor

section
section
open Go.RowKit Go.Lib

/-! ### Loading what lies from a cell on, as one value -/
theorem add_none (b o j : Nat) : (⟨b, o, none⟩ : Addr).add j = ⟨b, o + j, none⟩ := by unfold Addr.add; split <;> simp_all
theorem run_load_cells {w : World} {b o : Nat} (D : Array Value) (hD : ∀ (j : Nat) (v : Value), D[j]? = some v → w.cell? ⟨b, o + j, none⟩ = some v) (t : TypeId) (d : TypeDesc) (hu : Tryz.prog.underlying t = some d) (hd : (match d with | .struct _ | .array _ _ => true | _ => false) = true) (hi : (Tryz.prog.info? t).map (·.size) = some D.size) :
    (loadVar t ⟨b, o, none⟩).run Tryz.prog w = .ok (.agg D) w := by
  have hl : (loadCells ⟨b, o, none⟩ D.toList.length).run Tryz.prog w = .ok D.toList.toArray w :=
    run_loadCells_list (P := Tryz.prog) w ⟨b, o, none⟩ D.toList (fun j v hv => by
      rw [add_none]
      exact hD j v (by simpa using hv))
  cases hq : Tryz.prog.info? t with
  | none => simp [hq] at hi
  | some i =>
    have hs : i.size = D.size := by simpa [hq] using hi
    simp only [Array.length_toList, Array.toArray_toList] at hl
    cases d <;> simp at hd <;> simp [loadVar, isAgg, underlying, sizeOf, typeInfo, hq, hu, hs, hl]
theorem wp_load_cells {o : Oper} {a : Act} {w : World} {K : Act → World → Prop} {Q : Exit → Act → World → Prop} (ty : TypeId) (x : Operand) (ho : o.op = .load ty x)
    (b f : Nat) (hx : a.eval x = .pointer (some ⟨b, f, none⟩)) (D : Array Value) (hD : ∀ (j : Nat) (v : Value), D[j]? = some v → w.cell? ⟨b, f + j, none⟩ = some v) (d : TypeDesc)
    (hu : Tryz.prog.underlying ty = some d) (hd : (match d with | .struct _ | .array _ _ => true | _ => false) = true) (hi : (Tryz.prog.info? ty).map (·.size) = some D.size)
    (h : K (a.put o.dst (.agg D)) w) : o.wp Tryz.prog a w K Q := by
  unfold Oper.wp execOp
  simp only [ho, hx, Instr.loadAt, Instr.sureAddr, Sem.run_bind, Sem.run_pure, Result.andThen_ok, run_load_cells D hD ty d hu hd hi]
  exact h
theorem wpList_load_cells {ops : Array Oper} {rest : List Oper} {o : Oper} {a : Act} {w : World} {Q : Exit → Act → World → Prop} (hgd : o.guard = none) (ty : TypeId) (x : Operand) (ho : o.op = .load ty x)
    (b f : Nat) (hx : a.eval x = .pointer (some ⟨b, f, none⟩)) (D : Array Value) (hD : ∀ (j : Nat) (v : Value), D[j]? = some v → w.cell? ⟨b, f + j, none⟩ = some v) (d : TypeDesc)
    (hu : Tryz.prog.underlying ty = some d) (hd : (match d with | .struct _ | .array _ _ => true | _ => false) = true) (hi : (Tryz.prog.info? ty).map (·.size) = some D.size)
    (h : wpList Tryz.prog ops Q rest (a.put o.dst (.agg D)) w) : wpList Tryz.prog ops Q (o :: rest) a w :=
  wpList_plain hgd fun _ hK => wp_load_cells ty x ho b f hx D hD d hu hd hi (hK _ _ h)
/-- A part of a block's cells. -/
theorem part_cells {w : World} {b : Nat} {T : TypeId} {C : Array Value} (hx : Bx w b T C) (f n : Nat) (h : f + n ≤ C.size) : (C.extract f (f + n)).size = n ∧ ∀ (j : Nat) (v : Value), (C.extract f (f + n))[j]? = some v → w.cell? ⟨b, f + j, none⟩ = some v := by
  refine ⟨by simp; omega, fun j v hj => ?_⟩
  rw [hx.all.1]
  rw [Array.getElem?_extract] at hj
  split at hj
  · exact hj
  · cases hj

/-! ### The words, several more -/
structure WX (W0 : World) (p : Nat) (v : Value) (W1 : World) (L T : List ByteArray) (d0 d3 d4 d5 : Bool) (v3 v4 : Value) (w : World) : Prop where
  bel : Below W0.heap.size W0 w
  kp : Kp W1 w
  bx : Bx w p 60 #[if d5 then v4 else v]
  own : if d4 then OwnG W0.heap.size w v4 (L ++ T) else OwnG W0.heap.size w v L
  arg : d3 = true → d4 = false → ∃ gn, v3 = .slice (some ⟨gn, 0, none⟩) T.length T.length ∧ Bx w gn 9 (T.map Value.string).toArray
  o4 : d4 = true → d0 = true ∧ d3 = true
  o5 : d5 = true → d4 = true
section
variable {W0 W1 : World} {p : Nat} {v : Value} {L T : List ByteArray} {d0 d3 d4 d5 : Bool} {v3 v4 : Value} {w w' : World}
theorem WX.keep (h : WX W0 p v W1 L T d0 d3 d4 d5 v3 v4 w) (hb : Below w.heap.size w w') : WX W0 p v W1 L T d0 d3 d4 d5 v3 v4 w' := by
  obtain ⟨a1, a2, a3, a4, a5, a6, a7⟩ := h
  refine ⟨a1.trans (hb.mono a1.size), a2.trans (Kp.below hb), a3.keep hb, ?_, fun e f => ?_, a6, a7⟩
  · split
    · rename_i e; rw [if_pos e] at a4; exact a4.keep hb
    · rename_i e; rw [if_neg e] at a4; exact a4.keep hb
  · obtain ⟨gn, e1, e2⟩ := a5 e f
    exact ⟨gn, e1, e2.keep hb⟩
theorem WX.set0 (h : WX W0 p v W1 L T d0 d3 d4 d5 v3 v4 w) : WX W0 p v W1 L T true d3 d4 d5 v3 v4 w :=
  ⟨h.bel, h.kp, h.bx, h.own, h.arg, fun e => ⟨rfl, (h.o4 e).2⟩, h.o5⟩
theorem WX.set3 (h : WX W0 p v W1 L T d0 d3 d4 d5 v3 v4 w) (n : Nat) (hn : n = T.length) (cs : Array Value) (hc : cs = (T.map Value.string).toArray) : WX W0 p v W1 L T d0 true d4 d5 (.slice (some ⟨w.heap.size, 0, none⟩) n n) v4 (w.alloc (.cells cs 9)) := by
  subst hn; subst hc
  have k := h.keep (bnew (Below.refl _ w) (ob := .cells (T.map Value.string).toArray 9))
  exact ⟨k.bel, k.kp, k.bx, k.own, fun _ _ => ⟨_, rfl, Bx.new _ _ _⟩, fun e => ⟨(k.o4 e).1, rfl⟩, k.o5⟩
theorem WX.set4 (h : WX W0 p v W1 L T true true false d5 v3 v4 w) {v' : Value} (hown : w'.ownsRow W0.heap.size 9 1 v' (L.length + T.length) (L.map Value.string ++ T.map Value.string)) (hgrow : w.grownBy w' v.ownBlock) :
    WX W0 p v W1 L T true true true d5 v3 v' w' := by
  obtain ⟨a1, a2, a3, a4, a5, a6, a7⟩ := h
  have h5 : d5 = false := by
    cases d5
    · rfl
    · exact absurd (a7 rfl) (by decide)
  subst h5
  rw [if_neg (by decide)] at a4
  have hpp : v.ownBlock ≠ some p := a4.apart (T := 60) ⟨_, a3⟩ (.inl (by decide))
  refine ⟨?_, ?_, ?_, ?_, fun _ e => (by cases e), fun _ => ⟨rfl, rfl⟩, fun e => by cases e⟩
  · refine a1.grown hgrow a1.size fun k hk => ?_
    rcases a4.2 with ⟨h0, _⟩ | ⟨g, cap, cur, e1, e2, _⟩
    · rw [h0] at hk; cases hk
    · rw [e1] at hk
      simp only [Value.ownBlock, Option.some.injEq] at hk
      omega
  · intro k cs T mk h1 h2 h3
    have h4 := a2 k cs T mk h1 h2 h3
    exact (hgrow.block k (Array.getElem?_eq_some_iff.1 h4).1 (Ne.symm (a4.apart ⟨mk, h4⟩ (.inl h2)))).trans h4
  · unfold Bx
    rw [hgrow.block p a3.lt (Ne.symm hpp)]
    exact a3
  · rw [if_pos rfl]
    unfold OwnG
    rw [List.map_append, List.length_append]
    exact hown
theorem WX.set5b (h : WX W0 p v W1 L T d0 d3 d4 d5 v3 v4 w) (h4 : d4 = true) (h5 : d5 = false) (hp : W0.heap.size ≤ p) : WX W0 p v W1 L T d0 d3 d4 true v3 v4 (w.setCell ⟨p, 0, none⟩ v4) := by
  subst h4; subst h5
  obtain ⟨a1, a2, a3, a4, a5, a6, a7⟩ := h
  rw [if_pos rfl] at a4
  rw [if_neg (by decide)] at a3
  have hpp : v4.ownBlock ≠ some p := a4.apart (T := 60) ⟨_, a3⟩ (.inl (by decide))
  refine ⟨a1.setCell (p := ⟨p, 0, none⟩) hp _, ?_, ?_, ?_, fun _ e => (by cases e), a6, fun _ => rfl⟩
  · intro k cs T mk h1 h2 h3
    have h4 := a2 k cs T mk h1 h2 h3
    rw [Below.heap_setCell]
    · exact h4
    · rintro rfl
      have := h4.symm.trans a3
      injection this with this
      injection this with _ e5 _
      exact h3 e5
  · rw [if_pos rfl]; exact a3.set 0 v4
  · rw [if_pos rfl]
    exact a4.kept fun g cur hg _ => by
      rw [Below.heap_setCell]
      intro e
      exact hpp (by rw [hg]; exact congrArg some e)
theorem WX.form (h : WX W0 p v W1 L T d0 d3 d4 d5 v3 v4 w) (h4 : d4 = true) : ∃ a n c, v4 = .slice a n c := by
  have := h.own
  rw [if_pos h4] at this
  exact this.form
theorem WX.ws (h : WX W0 p v W1 L T true true true true v3 v4 w) : Ws W0 p W1 (L ++ T) v4 w := by
  obtain ⟨a1, a2, a3, a4, a5, a6, a7⟩ := h
  rw [if_pos rfl] at a3 a4
  exact ⟨a1, a2, a3, a4⟩
theorem Ws.wx (h : Ws W0 p W1 L v w) (T : List ByteArray) (v3 v4 : Value) : WX W0 p v W1 L T false false false false v3 v4 w :=
  ⟨h.1, h.2.1, by rw [if_neg (by decide)]; exact h.2.2.1, by rw [if_neg (by decide)]; exact h.2.2.2, fun e => (by cases e), fun e => (by cases e), fun e => by cases e⟩
end
/-- The append itself, in a drawn region. -/
theorem wx_append {W0 W1 w : World} {p : Nat} {v : Value} {L T : List ByteArray} {d5 : Bool} {v3 v4 : Value} (h : WX W0 p v W1 L T true true false d5 v3 v4 w) (hT : 0 < T.length) (hL : L.length + T.length ≤ 1000000) {o : Oper} {a : Act} {K : Act → World → Prop} {Q : Exit → Act → World → Prop} (s x : Operand)
    (ho : o.op = .call { callee := .builtin .append, args := #[s, x], argTypes := #[60, 60] }) (hs : a.eval s = v) (hx : a.eval x = v3)
    (hK : ∀ v' w', WX W0 p v W1 L T true true true d5 v3 v' w' → K (a.put o.dst v') w') : o.wp Tryz.prog a w K Q := by
  obtain ⟨gn, e3, x3⟩ := h.arg rfl rfl
  have hO := h.own
  rw [if_neg (by decide)] at hO
  obtain ⟨i0, hi0, hz0, hz1, hz2⟩ := info_parts infoG
  have hml : maxLen = 9223372036854775807 := rfl
  refine wp_append_own w s x 60 ho W0.heap.size 9 i0 (.string ⟨#[]⟩) 1 16 Tryz.underlying60 hi0 hz0 hz1 hz2 rfl (by decide) v L.length (L.map Value.string) hs hO ⟨gn, 0, none⟩ T.length T.length (T.map Value.string) (hx.trans e3) (by rw [List.length_map, Nat.mul_one]) (fun j y hj => ?_) (fun y hy => ?_) (by omega) (by omega) h.bel.size ?_
  · rw [add_none, x3.all.1, Nat.zero_add]
    simpa using hj
  · obtain ⟨q, _, rfl⟩ := List.mem_map.1 hy
    rfl
  · intro v' w' ho hg _
    exact hK v' w' (h.set4 ho hg)

/-! ### The closure -/
theorem say_bx (xs : List Nat) (hxs : ∀ k, k < xs.length → xs.getD k 0 < 4294967296) {W0 W1 w : World} (E : EnvF W0) {p b o c N : Nat} {T : TypeId} {mk : Nat × Nat} {C : Array Value} (hp : W0.heap.size ≤ p) (hx : w.heap[b]? = some (.cells C T mk)) (h1 : T ≠ 9) (h2 : T ≠ 60)
    (hC : ∀ k, k < xs.length → C[o + k]? = some (.float .f32 (xs.getD k 0))) {L : List ByteArray} {v : Value} (h : Ws W0 p W1 L v w) (hL : L.length + xs.length ≤ 1000000) (hN : xs.length = N) :
    Calls Tryz.prog 75 #[.slice (some ⟨b, o, none⟩) N c, .pointer (some ⟨p, 0, none⟩)] w fun e w' => e = .returned (.tuple #[]) ∧ ∃ v', Ws W0 p W1 (L ++ xs.map textF) v' w' := by
  refine (pg_say xs hxs W0 E p b o c w hp (fun w' _ k' j hj => ?_) L v w ⟨h.1, Kp.refl _, h.2.2⟩ hL N hN).mono ?_
  · have := k' b C T mk hx h1 h2
    unfold World.cell?
    rw [this]
    exact hC j hj
  · rintro e w' ⟨rfl, v', h'⟩
    exact ⟨rfl, v', h'.1, h.2.1.trans h'.2.1, h'.2.2⟩
theorem say_own (xs : List Nat) (hxs : ∀ k, k < xs.length → xs.getD k 0 < 4294967296) (hpos : xs ≠ []) {W0 W1 w : World} (E : EnvF W0) {p B : Nat} {u : Value} (hp : W0.heap.size ≤ p) (hu : OwF B w u xs)
    {L : List ByteArray} {v : Value} (h : Ws W0 p W1 L v w) (hL : L.length + xs.length ≤ 1000000) :
    Calls Tryz.prog 75 #[u, .pointer (some ⟨p, 0, none⟩)] w fun e w' => e = .returned (.tuple #[]) ∧ ∃ v', Ws W0 p W1 (L ++ xs.map textF) v' w' := by
  rcases hu.2 with ⟨_, h0⟩ | ⟨g, cap, cur, e1, e2, e3, e4, e5, e6, e7⟩
  · exact absurd (List.length_eq_zero_iff.1 h0) hpos
  · rw [e1]
    refine say_bx xs hxs E hp e3 (by decide) (by decide) (fun k hk => ?_) h hL rfl
    have hq : (xs.map (Value.float .f32))[k]? = some (.float .f32 (xs.getD k 0)) := by
      rw [List.getElem?_map, List.getElem?_eq_getElem hk, List.getD_eq_getElem?_getD, List.getElem?_eq_getElem hk]; rfl
    rw [← e7, List.getElem?_take] at hq
    rw [Nat.zero_add]
    split at hq
    · rw [Array.getElem?_toList] at hq; exact hq
    · cases hq
end

section
open Go.RowKit Go.Lib

theorem expT_len (e : Int) : (expT e).length ≤ 4 := by
  unfold expT
  rw [List.length_append]
  have h1 : (if e < 0 then [45] else ([43] : List Int)).length = 1 := by split <;> rfl
  have h2 : (if e.natAbs < 10 then [48, (e.natAbs : Int) + 48] else if e.natAbs < 100 then [(e.natAbs : Int) / 10 + 48, (e.natAbs : Int) % 10 + 48] else [(e.natAbs : Int) / 100 + 48, (e.natAbs : Int) / 10 % 10 + 48, (e.natAbs : Int) % 10 + 48]).length ≤ 3 := by
    split
    · simp
    · split <;> simp
  omega
theorem fmtT_len (neg : Bool) (D : List Int) (dp : Int) (hD : D.length ≤ 20) (h1 : -100 ≤ dp) (h2 : dp ≤ 100) : (fmtT neg D dp).length ≤ 300 := by
  unfold fmtT
  have e1 : (if neg = true then [45] else ([] : List Int)).length ≤ 1 := by split <;> simp
  rw [List.length_append]
  refine Nat.le_trans (Nat.add_le_add e1 (d := 299) ?_) (by omega)
  split
  · have := expT_len (if D.length = 0 then 0 else dp - 1)
    rw [List.length_append, List.length_append, List.length_append]
    have e2 : (if 1 < D.length then [46] ++ D.drop 1 else ([] : List Int)).length ≤ 21 := by
      split
      · rw [List.length_append, List.length_drop]; simp; omega
      · simp
    simp only [List.length_cons, List.length_nil]
    omega
  · split
    · rw [List.length_append, List.length_append, List.length_take, List.length_replicate]
      have e2 : (if dp.toNat < D.length then [46] ++ D.drop dp.toNat else ([] : List Int)).length ≤ 21 := by
        split
        · rw [List.length_append, List.length_drop]; simp; omega
        · simp
      omega
    · rw [List.length_append]
      have e2 : (if 0 < (D.length : Int) - dp then [46] ++ (List.replicate (-dp).toNat 48 ++ D) else ([] : List Int)).length ≤ 140 := by
        split
        · rw [List.length_append, List.length_append, List.length_replicate]; simp; omega
        · simp
      simp only [List.length_cons, List.length_nil]
      omega
theorem shortF_lt (m : Nat) (e : Int) : (shortF m e).1 < 4611686018427387904 := by
  have hw : ∀ z, 0 ≤ IntKind.u64.wrap z ∧ IntKind.u64.wrap z < 18446744073709551616 := fun z => by rw [IntKind.wrap_u64]; omega
  unfold shortF
  split
  · unfold sfDmax
    have := hw (sfU m e (sfMax m e) + IntKind.u64.wrap (-(sfOdd m e)))
    dsimp only; omega
  · split
    · unfold roundU
      have := hw (IntKind.u64.wrap (sfU m e m + 1) + bits .and .u64 (sfU m e m / 4) 1)
      dsimp only; omega
    · unfold sfDmin
      have := hw (IntKind.u64.wrap (sfU m e (sfMin m e) + IntKind.u64.wrap (sfOdd m e)) + 3)
      dsimp only; omega
theorem ftoaT_len (x : Nat) (hx : exN x < 255) : (ftoaT x).length ≤ 300 := by
  unfold ftoaT
  split
  · exact fmtT_len _ _ _ (by simp) (by omega) (by omega)
  · rename_i h
    obtain ⟨ok, _⟩ := sf_of h hx
    have hu := shortF_lt (mnN x) (seE x)
    have hd := ok.dp
    have hn := nDigits_le20 (shortF (mnN x) (seE x)).1.toNat (by omega)
    refine fmtT_len _ _ _ ?_ (by omega) (by omega)
    rw [digD_len]
    exact Nat.le_trans (trimK_le _ _) hn
theorem textF_len (x : Nat) : (textF x).size ≤ 300 := by
  unfold textF
  split
  · decide
  · decide
  · decide
  · rename_i s m i h
    have := ftoaT_len x (num_exN h)
    unfold strOfNums
    simpa [ByteArray.size] using this
theorem itoaB_len (n : Int) (h : 0 ≤ n ∧ n ≤ 1000) : (itoaB n).size ≤ 300 := by
  have := itoa_length_le n (by omega) (by omega)
  unfold itoaB
  show (itoa n).toArray.size ≤ 300
  simp; omega

/-- What the printing wants of a grade. -/
structure GdOk (g : Gd) : Prop where
  k1 : 1 ≤ g.kind
  k6 : g.kind ≤ 6
  whe : ∀ k, k < g.whe.length → g.whe.getD k 0 < 4294967296
  lst : ∀ k, k < g.lst.length → g.lst.getD k 0 < 4294967296
  mix : ∀ k, k < g.mix.length → g.mix.getD k 0 < 4294967296
  piv : g.piv < 4294967296
  amt : g.amt < 4294967296
  pts : ∀ k, k < 3 → 0 ≤ g.pts.getD k 0 ∧ g.pts.getD k 0 ≤ 50
  cvs : ∀ c, c ∈ g.cvs → c.xs.length = c.ys.length ∧ c.xs.length ≤ 32 ∧ (c.xs.length ≠ 0 → c.kind = 1 ∨ c.kind = 2) ∧ (∀ k, k < c.xs.length → c.xs.getD k 0 < 4294967296) ∧ ∀ k, k < c.ys.length → c.ys.getD k 0 < 4294967296
theorem cvW_len {g : Gd} (h : GdOk g) {c : Cv} (hc : c ∈ g.cvs) : (cvW c).length ≤ 66 ∧ ∀ s ∈ cvW c, s.size ≤ 300 := by
  obtain ⟨h1, h2, h3, _⟩ := h.cvs c hc
  unfold cvW
  split
  · exact ⟨by simp, fun s hs => by simp only [List.mem_singleton] at hs; subst hs; decide⟩
  · rename_i h0
    have hp : (pairW c.xs c.ys c.xs.length).length ≤ 64 := by
      have : ∀ k, (pairW c.xs c.ys k).length = 2 * k := by
        intro k
        induction k with
        | zero => rfl
        | succ k ih => rw [pairW_succ, List.length_append, ih]; simp; omega
      rw [this]; omega
    refine ⟨by simp only [List.length_cons]; omega, fun s hs => ?_⟩
    simp only [List.mem_cons] at hs
    rcases hs with rfl | rfl | hs
    · rcases h3 h0 with e | e <;> rw [e] <;> decide
    · exact itoaB_len _ (by omega)
    · unfold pairW at hs
      obtain ⟨i, _, hs⟩ := List.mem_flatMap.1 hs
      simp only [List.mem_cons, List.not_mem_nil, or_false] at hs
      rcases hs with rfl | rfl <;> exact textF_len _
theorem bodyW_len {w : World} {C : Array Value} {g : Gd} (hG : GdAt w C g) (h : GdOk g) : (bodyW g).length ≤ 264 ∧ ∀ s ∈ bodyW g, s.size ≤ 300 := by
  have ht : ∀ (l : List Nat), l.length ≤ 264 → (l.map textF).length ≤ 264 ∧ ∀ s ∈ l.map textF, s.size ≤ 300 := fun l hl => by
    refine ⟨by rw [List.length_map]; exact hl, fun s hs => ?_⟩
    obtain ⟨x, _, rfl⟩ := List.mem_map.1 hs
    exact textF_len x
  unfold bodyW
  split
  · exact ht _ (by rw [hG.whe.1]; omega)
  · split
    · exact ht _ (by rw [hG.lst.1]; omega)
    · split
      · have hl := hG.cvs.1
        constructor
        · have : ∀ (l : List Cv), (∀ c ∈ l, c ∈ g.cvs) → (l.flatMap cvW).length ≤ 66 * l.length := by
            intro l
            induction l with
            | nil => intro _; simp
            | cons a l ih =>
              intro hm
              have i1 := ih fun c hc => hm c (List.mem_cons_of_mem _ hc)
              have i2 := (cvW_len h (hm a (List.mem_cons_self ..))).1
              rw [List.flatMap_cons, List.length_append, List.length_cons]
              omega
          have := this g.cvs fun c hc => hc
          omega
        · intro s hs
          obtain ⟨c, hc, hs⟩ := List.mem_flatMap.1 hs
          exact (cvW_len h hc).2 s hs
      · split
        · exact ht _ (by rw [hG.mix.1]; omega)
        · split
          · exact ht [g.piv, g.amt] (by simp)
          · split
            · have hl := hG.pts.1
              refine ⟨by rw [List.length_map]; omega, fun s hs => ?_⟩
              obtain ⟨x, hx, rfl⟩ := List.mem_map.1 hs
              obtain ⟨k, hk, rfl⟩ := List.getElem_of_mem hx
              have := h.pts k (by omega)
              rw [List.getD_eq_getElem?_getD, List.getElem?_eq_getElem hk] at this
              exact itoaB_len _ (by simp only [Option.getD_some] at this; omega)
            · exact ⟨by simp, fun s hs => by cases hs⟩
theorem kindW_len (k : Nat) : (kindW.getD k ⟨#[]⟩).size ≤ 300 := by
  by_cases h : k < 7
  · have : ∀ k < 7, (kindW.getD k ⟨#[]⟩).size ≤ 300 := by decide
    exact this k h
  · rw [List.getD_eq_getElem?_getD, List.getElem?_eq_none (by show 7 ≤ k; omega)]
    decide
theorem join_le (S : List ByteArray) (n : Nat) (h : ∀ s ∈ S, s.size ≤ n) : (Lib.join (S.map (·.data.toList)) [32]).length ≤ (n + 1) * S.length := by
  have key : ∀ (S : List ByteArray), (∀ s ∈ S, s.size ≤ n) → lens (S.map (·.data.toList)) ≤ n * S.length := by
    intro S
    induction S with
    | nil => intro _; exact Nat.zero_le _
    | cons a S ih =>
      intro h
      have i1 := ih fun s hs => h s (List.mem_cons_of_mem _ hs)
      have i2 := h a (List.mem_cons_self ..)
      have i3 : a.data.toList.length ≤ n := by rw [Array.length_toList]; exact i2
      have e : lens ((a :: S).map (·.data.toList)) = a.data.toList.length + lens (S.map (·.data.toList)) := rfl
      rw [e, List.length_cons, Nat.mul_succ]
      omega
  cases S with
  | nil => exact Nat.zero_le _
  | cons a S =>
    have := key (a :: S) h
    rw [List.map_cons] at this ⊢
    rw [join_length, List.length_map, Nat.add_mul, Nat.one_mul]
    simp only [List.length_cons, List.length_nil] at this ⊢
    omega
theorem words_len {w : World} {C : Array Value} {g : Gd} (hG : GdAt w C g) (h : GdOk g) : (wordsG g).length ≤ 265 ∧ (Lib.join ((wordsG g).map (·.data.toList)) [32]).length ≤ 80000 := by
  obtain ⟨h1, h2⟩ := bodyW_len hG h
  have h3 : (wordsG g).length ≤ 265 := by show (bodyW g).length + 1 ≤ 265; omega
  refine ⟨h3, Nat.le_trans (join_le (wordsG g) 300 fun s hs => ?_) (by omega)⟩
  unfold wordsG at hs
  rcases List.mem_cons.1 hs with rfl | hs
  · exact kindW_len _
  · exact h2 s hs
theorem spaced_len {w : World} {C : Array Value} {g : Gd} (hG : GdAt w C g) (h : GdOk g) : (spaced (wordsG g)).size ≤ 80000 := by
  have := (words_len hG h).2
  unfold spaced
  simpa [ByteArray.size] using this
theorem line_len {w : World} {C : Array Value} {g : Gd} (hG : GdAt w C g) (h : GdOk g) : (lineG g).size ≤ 80001 := by
  have := spaced_len hG h
  unfold lineG
  rw [ByteArray.size_append]
  show _ + 1 ≤ _
  omega
/-- Grades one behind the other, from the cell o of the block b on. -/
def GlAt (w : World) (b o : Nat) (gs : List Gd) : Prop :=
  ∀ (k : Nat) (g : Gd), gs[k]? = some g → ∃ C, GdAt w C g ∧ ∀ (j : Nat) (v : Value), C[j]? = some v → w.cell? ⟨b, o + k * 49 + j, none⟩ = some v
/-- What is printed of a list of grades. -/
def linesG (gs : List Gd) : ByteArray := gs.foldl (fun s g => s ++ lineG g) ⟨#[]⟩
theorem linesG_next {gs : List Gd} {k : Nat} {g : Gd} (h : gs[k]? = some g) : linesG (gs.take (k + 1)) = linesG (gs.take k) ++ lineG g := by
  rw [List.take_add_one, h]
  simp [linesG, List.foldl_append]
theorem linesG_len {w : World} {b o : Nat} {gs : List Gd} (hG : GlAt w b o gs) (h : ∀ g ∈ gs, GdOk g) (k : Nat) : (linesG (gs.take k)).size ≤ 80001 * k := by
  induction k with
  | zero => rw [List.take_zero]; exact Nat.zero_le _
  | succ k ih =>
    cases hk : gs[k]? with
    | none =>
      rw [List.take_add_one, hk]
      simp only [Option.toList_none, List.append_nil]
      omega
    | some g =>
      obtain ⟨C, h1, _⟩ := hG k g hk
      have := line_len h1 (h g (List.mem_of_getElem? hk))
      rw [linesG_next hk, ByteArray.size_append]
      omega
end
end

section
open Go.RowKit Go.Lib

theorem GdAt.keep {w w' : World} {C : Array Value} {g : Gd} (h : GdAt w C g) (hb : Below w.heap.size w w') : GdAt w' C g :=
  ⟨h.size, h.one, h.kind, h.whe, h.lst, ⟨h.cvs.1, fun i c hc => ⟨(h.cvs.2 i c hc).1, (by obtain ⟨vx, e, s⟩ := (h.cvs.2 i c hc).2.1; exact ⟨vx, e, s.keep hb⟩), (by obtain ⟨vy, e, s⟩ := (h.cvs.2 i c hc).2.2; exact ⟨vy, e, s.keep hb⟩)⟩⟩, h.mix, h.piv, h.amt, h.pts⟩
/-- The first word, under way. -/
structure W5 (W0 W1 : World) (t : ByteArray) (kn : Nat) (d0 d3 d5 d6 d7 : Bool) (v0 v3 v5 v6 : Value) (w : World) : Prop where
  bel : Below W0.heap.size W0 w
  kp : Kp W1 w
  a0 : d0 = true → ∃ g, v0 = .slice (some ⟨g, 0, none⟩) 7 7 ∧ Bx w g 9 (kindW.map Value.string).toArray
  a3 : d3 = true → ∃ g, v3 = .pointer (some ⟨g, kn, none⟩) ∧ Bx w g 9 (kindW.map Value.string).toArray
  a5 : d5 = true → ∃ g, v5 = .slice (some ⟨g, 0, none⟩) 1 1 ∧ W0.heap.size ≤ g ∧ Bx w g 9 #[.string t]
  a6 : d6 = true → ∃ p, v6 = .pointer (some ⟨p, 0, none⟩) ∧ W0.heap.size ≤ p ∧ Bx w p 60 #[if d7 then v5 else .slice none 0 0]
  a7 : d7 = true → d5 = true ∧ d6 = true
theorem Bx.ne {w : World} {a b : Nat} {T U : TypeId} {C D : Array Value} (h : Bx w a T C) (g : Bx w b U D) (ht : T ≠ U) : a ≠ b := by
  rintro rfl
  have h' : w.heap[a]? = _ := h
  have := h'.symm.trans g
  injection this with this
  injection this with _ e _
  exact ht e
section
variable {W0 W1 : World} {t : ByteArray} {kn : Nat} {d0 d3 d5 d6 d7 : Bool} {v0 v3 v5 v6 : Value} {w w' : World}
theorem W5.keep (h : W5 W0 W1 t kn d0 d3 d5 d6 d7 v0 v3 v5 v6 w) (hb : Below w.heap.size w w') : W5 W0 W1 t kn d0 d3 d5 d6 d7 v0 v3 v5 v6 w' := by
  obtain ⟨b1, b2, b3, b3', b4, b5, b6⟩ := h
  refine ⟨b1.trans (hb.mono b1.size), b2.trans (Kp.below hb), fun e => ?_, fun e => ?_, fun e => ?_, fun e => ?_, b6⟩
  · obtain ⟨g, e1, e2⟩ := b3 e; exact ⟨g, e1, e2.keep hb⟩
  · obtain ⟨g, e1, e2⟩ := b3' e; exact ⟨g, e1, e2.keep hb⟩
  · obtain ⟨g, e1, e2, e3⟩ := b4 e; exact ⟨g, e1, e2, e3.keep hb⟩
  · obtain ⟨g, e1, e2, e3⟩ := b5 e; exact ⟨g, e1, e2, e3.keep hb⟩
theorem W5.set0 (h : W5 W0 W1 t kn d0 d3 d5 d6 d7 v0 v3 v5 v6 w) {g : Nat} (hx : Bx w g 9 (kindW.map Value.string).toArray) : W5 W0 W1 t kn true d3 d5 d6 d7 (.slice (some ⟨g, 0, none⟩) 7 7) v3 v5 v6 w :=
  ⟨h.bel, h.kp, fun _ => ⟨g, rfl, hx⟩, h.a3, h.a5, h.a6, h.a7⟩
theorem W5.set3 (h : W5 W0 W1 t kn d0 d3 d5 d6 d7 v0 v3 v5 v6 w) {g : Nat} (hx : Bx w g 9 (kindW.map Value.string).toArray) : W5 W0 W1 t kn d0 true d5 d6 d7 v0 (.pointer (some ⟨g, kn, none⟩)) v5 v6 w :=
  ⟨h.bel, h.kp, h.a0, fun _ => ⟨g, rfl, hx⟩, h.a5, h.a6, h.a7⟩
theorem W5.set5 (h : W5 W0 W1 t kn d0 d3 d5 d6 d7 v0 v3 v5 v6 w) (h5 : d5 = false) : W5 W0 W1 t kn d0 d3 true d6 d7 v0 v3 (.slice (some ⟨w.heap.size, 0, none⟩) 1 1) v6 (w.alloc (.cells #[.string t] 9)) := by
  have k := h.keep (bnew (Below.refl _ w) (ob := .cells #[.string t] 9))
  have h7 : d7 = false := by
    cases d7
    · rfl
    · have := (h.a7 rfl).1; rw [h5] at this; cases this
  subst h7
  exact ⟨k.bel, k.kp, k.a0, k.a3, fun _ => ⟨_, rfl, h.bel.size, Bx.new _ _ _⟩, k.a6, fun e => by cases e⟩
theorem W5.set6 (h : W5 W0 W1 t kn d0 d3 d5 d6 d7 v0 v3 v5 v6 w) (h6 : d6 = false) : W5 W0 W1 t kn d0 d3 d5 true d7 v0 v3 v5 (.pointer (some ⟨w.heap.size, 0, none⟩)) (w.alloc (.cells #[.slice none 0 0] 60)) := by
  have k := h.keep (bnew (Below.refl _ w) (ob := .cells #[.slice none 0 0] 60))
  have h7 : d7 = false := by
    cases d7
    · rfl
    · have := (h.a7 rfl).2; rw [h6] at this; cases this
  subst h7
  exact ⟨k.bel, k.kp, k.a0, k.a3, k.a5, fun _ => ⟨_, rfl, h.bel.size, Bx.new _ _ _⟩, fun e => by cases e⟩
theorem W5.set7 (h : W5 W0 W1 t kn d0 d3 d5 d6 d7 v0 v3 v5 v6 w) {p g1 : Nat} (hv6 : v6 = .pointer (some ⟨p, 0, none⟩)) (hv5 : v5 = .slice (some ⟨g1, 0, none⟩) 1 1) (h5 : d5 = true) (h6 : d6 = true) (h7 : d7 = false) :
    W5 W0 W1 t kn d0 d3 d5 d6 true v0 v3 v5 v6 (w.setCell ⟨p, 0, none⟩ (.slice (some ⟨g1, 0, none⟩) 1 1)) := by
  subst h5; subst h6; subst h7
  obtain ⟨b1, b2, b3, b3', b4, b5, b6⟩ := h
  obtain ⟨p', e1, e2, e3⟩ := b5 rfl
  rw [hv6] at e1
  obtain rfl : p = p' := by injection e1 with e; injection e with e; injection e
  refine ⟨b1.setCell (p := ⟨p, 0, none⟩) e2 _, ?_, fun e => ?_, fun e => ?_, fun e => ?_, fun e => ?_, fun _ => ⟨rfl, rfl⟩⟩
  · intro k cs T mk h1 h2 h3
    have h4 := b2 k cs T mk h1 h2 h3
    rw [Below.heap_setCell]
    · exact h4
    · rintro rfl
      have := h4.symm.trans e3
      injection this with this
      injection this with _ e5 _
      exact h3 e5
  · obtain ⟨g, f1, f2⟩ := b3 e; exact ⟨g, f1, f2.other _ _ (f2.ne e3 (by decide))⟩
  · obtain ⟨g, f1, f2⟩ := b3' e; exact ⟨g, f1, f2.other _ _ (f2.ne e3 (by decide))⟩
  · obtain ⟨g, f1, f0, f2⟩ := b4 e; exact ⟨g, f1, f0, f2.other _ _ (f2.ne e3 (by decide))⟩
  · exact ⟨p, hv6, e2, by rw [if_pos rfl, hv5]; exact e3.set 0 _⟩
theorem W5.ws (h : W5 W0 W1 t kn true true true true true v0 v3 v5 v6 w) : ∃ p v, v6 = .pointer (some ⟨p, 0, none⟩) ∧ W0.heap.size ≤ p ∧ Ws W0 p W1 [t] v w := by
  obtain ⟨p, e1, e2, e3⟩ := h.a6 rfl
  obtain ⟨g, f1, f2, f3⟩ := h.a5 rfl
  rw [if_pos rfl] at e3
  exact ⟨p, v5, e1, e2, h.bel, h.kp, e3, ⟨rfl, .inr ⟨g, 1, _, f1, f2, f3, Nat.le_refl _, by decide, rfl, rfl⟩⟩⟩
end
theorem run_catG {P : Program} {o : Oper} {a : Act} {w : World} {T1 T2 : TypeId} {s1 s2 : Operand} {x y : ByteArray} (ho : o.op = .binOp .add T1 s1 s2 T2) (h1 : a.eval s1 = .string x) (h2 : a.eval s2 = .string y) (hs : x.size + y.size ≤ 1000000000000) : (execOp a.eval o).run P w = .ok (.value (.string (x ++ y))) w := by
  obtain ⟨d, op, ty, ps, af, gd⟩ := o
  simp only at ho
  subst ho
  have hc : ¬ ((x.size + y.size : Nat) : Int) > IntKind.i64.max := by
    have : IntKind.i64.max = 9223372036854775807 := by decide
    rw [this]; omega
  have e : (Op.stringOp .add x y).run P w = .ok (.string (x ++ y)) w := by
    unfold Op.stringOp
    simp only [if_neg hc]
    rfl
  have e0 : ∀ u : World, Sem.run P (if (!false) = true then (pure () : Sem Unit) else pure ()) u = .ok () u := fun _ => rfl
  simp [execOp, h1, h2]
  simp only [eqGuard, binOp]
  rw [e0]
  simp only [Result.andThen]
  rw [e]
/-- Two texts put together, in a region that draws no order. -/
theorem wpList_cat {ops : Array Oper} {rest : List Oper} {o : Oper} {a : Act} {w : World} {Q : Exit → Act → World → Prop} {T1 T2 : TypeId} {s1 s2 : Operand} {x y : ByteArray} (hgd : o.guard = none) (ho : o.op = .binOp .add T1 s1 s2 T2) (h1 : a.eval s1 = .string x) (h2 : a.eval s2 = .string y) (hs : x.size + y.size ≤ 1000000000000)
    (h : wpList Tryz.prog ops Q rest (a.put o.dst (.string (x ++ y))) w) : wpList Tryz.prog ops Q (o :: rest) a w :=
  wpList_plain hgd fun _ hK => by
    unfold Oper.wp
    rw [run_catG (P := Tryz.prog) ho h1 h2 hs]
    exact hK _ _ h
/-- A call through a function value in a slot. -/
theorem run_go_callv {P : Program} {f : FuncId} {fn : Func} (hf : P.funcs[f]? = some fn) (hn : (fn.name == "runtime.NumGoroutine") = false) (hb : fn.body.isNone = false)
    (a : Act) (dst : Option Tmp) (t : Tmp) (cap : Array Value) (xs : Array Operand) (ats : Array TypeId) (ty : TypeId) (pos : String) (after : Array Edge) (guard : Option (Nat × Bool)) (w : World) (args : Array Value)
    (ht : a.tmps[t]?.getD undef = .func (.func f) #[] cap) (hx : xs.map a.eval ++ cap = args) :
    (execOp a.eval { dst, op := .call { callee := .value (.tmp t), args := xs, argTypes := ats }, type := ty, pos, after, guard }).run P w = .ok (.enter f args) w := by
  have h1 : fn.name ≠ "runtime.NumGoroutine" := by simpa using hn
  have h2 : ¬ fn.body = none := by intro e; rw [e] at hb; cases hb
  subst hx
  have ht' : a.eval (.tmp t) = .func (.func f) #[] cap := by simpa [Act.eval] using ht
  simp only [execOp, resolve, ht', Deferred.ofValue]
  simp [invoke, callFunc, hf, h1, h2]

/-- Slices gathered, joined to one, said: regions 9 and 11. -/
structure WC (W0 : World) (p : Nat) (W1 : World) (L : List ByteArray) (v : Value) (xs : List Nat) (m : Nat) (d10 d11 d12 : Bool) (v10 v11 : Value) (w : World) : Prop where
  bel : W0.heap.size ≤ w.heap.size
  f : d12 = true → d11 = true
  f2 : d11 = true → d10 = true
  a : d12 = false → Ws W0 p W1 L v w
  b : d10 = true → d12 = false → ∃ (g : Nat) (rows : List SlF), v10 = .slice (some ⟨g, 0, none⟩) m m ∧ rows.length = m ∧ flatS rows = xs ∧ Bx w g 37 (rows.map SlF.v).toArray ∧ ∀ (k : Nat) (r : SlF), rows[k]? = some r → r.g < w.heap.size ∧ ∀ (j : Nat) (u : Value), (r.xs.map (Value.float .f32))[j]? = some u → w.cell? ((⟨r.g, r.o, none⟩ : Addr).add j) = some u
  c : d11 = true → d12 = false → OwF W0.heap.size w v11 xs
  e : d12 = true → ∃ v', Ws W0 p W1 (L ++ xs.map textF) v' w
section
variable {W0 W1 : World} {p m : Nat} {L : List ByteArray} {v : Value} {xs : List Nat} {d10 d11 d12 : Bool} {v10 v11 : Value} {w w' : World}
theorem WC.keep (h : WC W0 p W1 L v xs m d10 d11 d12 v10 v11 w) (hb : Below w.heap.size w w') : WC W0 p W1 L v xs m d10 d11 d12 v10 v11 w' := by
  refine ⟨Nat.le_trans h.bel hb.size, h.f, h.f2, fun e => (h.a e).keep hb, fun e f => ?_, fun e f => (h.c e f).keep hb, fun e => ?_⟩
  · obtain ⟨g, rows, e1, e2, e3, e4, e5⟩ := h.b e f
    refine ⟨g, rows, e1, e2, e3, e4.keep hb, fun k r hr => ⟨Nat.lt_of_lt_of_le (e5 k r hr).1 hb.size, fun j u hj => ?_⟩⟩
    rw [hb.cell (p := (⟨r.g, r.o, none⟩ : Addr).add j) (by unfold Addr.add; split <;> exact (e5 k r hr).1)]
    exact (e5 k r hr).2 j u hj
  · obtain ⟨v', h'⟩ := h.e e
    exact ⟨v', h'.keep hb⟩
theorem WC.set10 (h : WC W0 p W1 L v xs m d10 d11 d12 v10 v11 w) (rows : List SlF) (hm : rows.length = m) (hx : flatS rows = xs) (cs : Array Value) (hcs : cs = (rows.map SlF.v).toArray)
    (hr : ∀ (k : Nat) (r : SlF), rows[k]? = some r → r.g < w.heap.size ∧ ∀ (j : Nat) (u : Value), (r.xs.map (Value.float .f32))[j]? = some u → w.cell? ((⟨r.g, r.o, none⟩ : Addr).add j) = some u) :
    WC W0 p W1 L v xs m true d11 d12 (.slice (some ⟨w.heap.size, 0, none⟩) m m) v11 (w.alloc (.cells cs 37)) := by
  subst hcs
  have hb := bnew (Below.refl _ w) (ob := .cells (rows.map SlF.v).toArray 37)
  have k := h.keep hb
  refine ⟨k.bel, k.f, fun _ => rfl, k.a, fun _ _ => ⟨w.heap.size, rows, rfl, hm, hx, Bx.new _ _ _, fun q r hq => ⟨Nat.lt_of_lt_of_le (hr q r hq).1 hb.size, fun j u hj => ?_⟩⟩, k.c, k.e⟩
  rw [hb.cell (p := (⟨r.g, r.o, none⟩ : Addr).add j) (by unfold Addr.add; split <;> exact (hr q r hq).1)]
  exact (hr q r hq).2 j u hj
theorem WC.set11 (h : WC W0 p W1 L v xs m d10 d11 d12 v10 v11 w) (h10 : d10 = true) {u : Value} (ho : OwF w.heap.size w' u xs) (hb : Below w.heap.size w w') : WC W0 p W1 L v xs m d10 true d12 v10 u w' :=
  have k := h.keep hb
  ⟨k.bel, fun _ => rfl, fun _ => h10, k.a, k.b, fun _ _ => ho.mono h.bel, k.e⟩
theorem WC.set12 (h11 : d11 = true) (h10 : d10 = true) (hw : ∃ v', Ws W0 p W1 (L ++ xs.map textF) v' w') : WC W0 p W1 L v xs m d10 d11 true v10 v11 w' :=
  ⟨(by obtain ⟨_, h⟩ := hw; exact h.1.size), fun _ => h11, fun _ => h10, fun e => (by cases e), fun _ e => (by cases e), fun _ e => (by cases e), fun _ => hw⟩
theorem WC.kp (h : WC W0 p W1 L v xs m d10 d11 d12 v10 v11 w) : Kp W1 w ∧ Below W0.heap.size W0 w := by
  cases hd : d12 with
  | false => exact ⟨(h.a hd).2.1, (h.a hd).1⟩
  | true => obtain ⟨v', h'⟩ := h.e hd; exact ⟨h'.2.1, h'.1⟩
theorem WC.no12 (h : WC W0 p W1 L v xs m d10 d11 d12 v10 v11 w) (h11 : d11 = false) : d12 = false := by
  cases hd : d12 with
  | false => rfl
  | true => have := h.f hd; rw [h11] at this; cases this
theorem WC.no12x (h : WC W0 p W1 L v xs m d10 d11 d12 v10 v11 w) (h10 : d10 = false) : d12 = false :=
  h.no12 (by
    cases hd : d11 with
    | false => rfl
    | true => have := h.f2 hd; rw [h10] at this; cases this)
theorem WC.start (h : Ws W0 p W1 L v w) (v10 v11 : Value) : WC W0 p W1 L v xs m false false false v10 v11 w :=
  ⟨h.1.size, fun e => (by cases e), fun e => (by cases e), fun _ => h, fun e => (by cases e), fun e => (by cases e), fun e => (by cases e)⟩
/-- Singles laid side by side and said: region 22. -/
structure WP (W0 : World) (p : Nat) (W1 : World) (L : List ByteArray) (v : Value) (xs : List Nat) (d11 d12 : Bool) (v11 : Value) (w : World) : Prop where
  a : d12 = false → Ws W0 p W1 L v w
  b : d11 = true → d12 = false → ∃ g, v11 = .slice (some ⟨g, 0, none⟩) xs.length xs.length ∧ Bx w g 23 (xs.map (Value.float .f32)).toArray
  e : d12 = true → ∃ v', Ws W0 p W1 (L ++ xs.map textF) v' w
theorem WP.keep (h : WP W0 p W1 L v xs d11 d12 v11 w) (hb : Below w.heap.size w w') : WP W0 p W1 L v xs d11 d12 v11 w' := by
  refine ⟨fun e => (h.a e).keep hb, fun e f => ?_, fun e => ?_⟩
  · obtain ⟨g, e1, e2⟩ := h.b e f
    exact ⟨g, e1, e2.keep hb⟩
  · obtain ⟨v', h'⟩ := h.e e
    exact ⟨v', h'.keep hb⟩
theorem WP.set11 (h : WP W0 p W1 L v xs d11 d12 v11 w) (n : Nat) (hn : n = xs.length) (cs : Array Value) (hc : cs = (xs.map (Value.float .f32)).toArray) : WP W0 p W1 L v xs true d12 (.slice (some ⟨w.heap.size, 0, none⟩) n n) (w.alloc (.cells cs 23)) := by
  subst hn; subst hc
  have k := h.keep (bnew (Below.refl _ w) (ob := .cells (xs.map (Value.float .f32)).toArray 23))
  exact ⟨k.a, fun _ _ => ⟨_, rfl, Bx.new _ _ _⟩, k.e⟩
theorem WP.kp (h : WP W0 p W1 L v xs d11 d12 v11 w) : Kp W1 w ∧ Below W0.heap.size W0 w := by
  cases hd : d12 with
  | false => exact ⟨(h.a hd).2.1, (h.a hd).1⟩
  | true => obtain ⟨v', h'⟩ := h.e hd; exact ⟨h'.2.1, h'.1⟩
end
/-- The cells of a row of memory, for slices.Concat. -/
theorem rows_of {w : World} {b : Nat} {T : TypeId} {C : Array Value} (hx : Bx w b T C) (r : SlF) (hg : r.g = b) (hc : ∀ j, j < r.xs.length → C[r.o + j]? = some (.float .f32 (r.xs.getD j 0))) :
    r.g < w.heap.size ∧ ∀ (j : Nat) (u : Value), (r.xs.map (Value.float .f32))[j]? = some u → w.cell? ((⟨r.g, r.o, none⟩ : Addr).add j) = some u := by
  subst hg
  refine ⟨hx.lt, fun j u hj => ?_⟩
  rw [add_none, hx.all.1]
  rw [List.getElem?_map] at hj
  cases hq : r.xs[j]? with
  | none => rw [hq] at hj; cases hj
  | some x =>
    rw [hq] at hj
    have hl := (List.getElem?_eq_some_iff.1 hq).1
    rw [hc j hl, List.getD_eq_getElem?_getD, hq]
    simpa using hj
/-- The append in a region that draws no order. -/
theorem wpList_wx_append {W0 W1 w : World} {p : Nat} {v : Value} {L T : List ByteArray} {d5 : Bool} {v3 v4 : Value} (h : WX W0 p v W1 L T true true false d5 v3 v4 w) (hT : 0 < T.length) (hL : L.length + T.length ≤ 1000000) {ops : Array Oper} {rest : List Oper} {o : Oper} {a : Act} {Q : Exit → Act → World → Prop} (hgd : o.guard = none) (s x : Operand)
    (ho : o.op = .call { callee := .builtin .append, args := #[s, x], argTypes := #[60, 60] }) (hs : a.eval s = v) (hx : a.eval x = v3)
    (hK : ∀ v' w', WX W0 p v W1 L T true true true d5 v3 v' w' → wpList Tryz.prog ops Q rest (a.put o.dst v') w') : wpList Tryz.prog ops Q (o :: rest) a w :=
  wpList_plain hgd fun _ hk => wx_append h hT hL s x ho hs hx fun v' w' h' => hk _ _ (hK v' w' h')
/-- An element of an array of aggregates, of integers. -/
theorem run_index_cv {D : Array Value} {k : Nat} (hk : k < 4) (w : World) : (Instr.index 40 (.agg D) (.int .i64 (k : Int))).run Tryz.prog w = .ok (.agg (D.extract (k * 3) (k * 3 + 3))) w := by
  have h1 : (0 : Int) ≤ (k : Int) ∧ (k : Int) < ((4 : Nat) : Int) := by omega
  simp [go_sem, Instr.index, h1]
  try omega
theorem wpList_index_cv {ops : Array Oper} {rest : List Oper} {o : Oper} {a : Act} {w : World} {Q : Exit → Act → World → Prop} (hgd : o.guard = none) (x i : Operand) (ho : o.op = .index 40 x i) {D : Array Value} {k : Nat} (hx : a.eval x = .agg D) (hi : a.eval i = .int .i64 (k : Int)) (hk : k < 4) {D3 : Array Value} (hE : D.extract (k * 3) (k * 3 + 3) = D3)
    (h : wpList Tryz.prog ops Q rest (a.put o.dst (.agg D3)) w) : wpList Tryz.prog ops Q (o :: rest) a w :=
  wpList_plain hgd fun _ hK => by
    subst hE
    unfold Oper.wp execOp
    simp only [ho, hx, hi, Sem.run_bind, run_index_cv hk, Result.andThen_ok, Sem.run_pure]
    exact hK _ _ h
theorem extract3 {D : Array Value} {j : Nat} {a b c : Value} (h0 : D[j * 3]? = some a) (h1 : D[j * 3 + 1]? = some b) (h2 : D[j * 3 + 2]? = some c) : D.extract (j * 3) (j * 3 + 3) = #[a, b, c] := by
  have hl := (Array.getElem?_eq_some_iff.1 h2).1
  apply Array.ext_getElem?
  intro i
  rw [Array.getElem?_extract]
  by_cases h : i < 3
  · rw [if_pos (by omega)]
    rcases (by omega : i = 0 ∨ i = 1 ∨ i = 2) with rfl | rfl | rfl
    · exact h0
    · exact h1
    · exact h2
  · rw [if_neg (by omega)]
    exact (Array.getElem?_eq_none (show 3 ≤ i by omega)).symm
theorem curve_size : (Tryz.prog.info? 39).map (·.size) = some 3 := by kernel_rfl
theorem curve_store (w : World) {C : Array Value} (hn : C.size = 3) (h1 : C.all (·.oneCell') = true) : (storeCells ⟨w.heap.size, 0, none⟩ C.toList 0).run Tryz.prog (w.alloc (.cells #[.int .i64 0, .slice none 0 0, .slice none 0 0] 39)) = .ok () (w.alloc (.cells C 39)) :=
  run_storeCells_new w _ _ C (by rw [hn]; exact curve_size) hn.symm h1
theorem Sl.form {w : World} {v : Value} {xs : List Nat} (h : Sl w v xs) : ∃ a n c, v = .slice a n c := by
  rcases h with ⟨b, o, c, h1, _⟩ | ⟨_, a, c, h1⟩
  · exact ⟨_, _, _, h1⟩
  · exact ⟨_, _, _, h1⟩
/-- The word of a curve's kind, under way. -/
structure CW (ck : Nat) (d1 d4 d11 : Bool) (v1 v4 : Value) (w : World) : Prop where
  a1 : d1 = true → d11 = false → ∃ g1, v1 = .slice (some ⟨g1, 0, none⟩) 3 3 ∧ Bx w g1 9 (curveW.map Value.string).toArray
  a4 : d4 = true → d11 = false → ∃ g1, v4 = .pointer (some ⟨g1, ck, none⟩) ∧ Bx w g1 9 (curveW.map Value.string).toArray
section
variable {ck : Nat} {d1 d4 d11 : Bool} {v1 v4 : Value} {w w' : World}
theorem CW.keep (h : CW ck d1 d4 d11 v1 v4 w) (hb : Below w.heap.size w w') : CW ck d1 d4 d11 v1 v4 w' := by
  refine ⟨fun e f => ?_, fun e f => ?_⟩
  · obtain ⟨g, e1, e2⟩ := h.a1 e f; exact ⟨g, e1, e2.keep hb⟩
  · obtain ⟨g, e1, e2⟩ := h.a4 e f; exact ⟨g, e1, e2.keep hb⟩
theorem CW.set1 (h : CW ck d1 d4 d11 v1 v4 w) (cs : Array Value) (hc : cs = (curveW.map Value.string).toArray) : CW ck true d4 d11 (.slice (some ⟨w.heap.size, 0, none⟩) 3 3) v4 (w.alloc (.cells cs 9)) := by
  subst hc
  exact ⟨fun _ _ => ⟨_, rfl, Bx.new _ _ _⟩, (h.keep (bnew (Below.refl _ _))).a4⟩
theorem CW.set4 (h : CW ck d1 d4 d11 v1 v4 w) {g : Nat} (hx : Bx w g 9 (curveW.map Value.string).toArray) : CW ck d1 true d11 v1 (.pointer (some ⟨g, ck, none⟩)) w := ⟨h.a1, fun _ _ => ⟨_, rfl, hx⟩⟩
theorem CW.done (h : d11 = true) : CW ck d1 d4 d11 v1 v4 w := ⟨fun _ e => (by rw [h] at e; cases e), fun _ e => (by rw [h] at e; cases e)⟩
end
theorem cvW_none {c : Cv} (h : c.xs = []) : cvW c = [⟨#[45]⟩] := by unfold cvW; rw [h]; rfl
theorem cvW_some {c : Cv} (h : c.xs.length ≠ 0) {ck : Nat} (hk : c.kind = (ck : Int)) {wd : ByteArray} (hw : curveW.getD ck ⟨#[]⟩ = wd) : cvW c = [wd, itoaB (c.xs.length : Int)] ++ pairW c.xs c.ys c.xs.length := by
  unfold cvW
  rw [if_neg h, hk, Int.toNat_natCast, hw]; rfl
theorem run_index_pt {D : Array Value} {k : Nat} {x : Int} (hk : k < 3) (hD : D[k]? = some (.int .i64 x)) (w : World) : (Instr.index 44 (.agg D) (.int .i64 (k : Int))).run Tryz.prog w = .ok (.int .i64 x) w := by
  have h1 : (0 : Int) ≤ (k : Int) ∧ (k : Int) < ((3 : Nat) : Int) := by omega
  simp [go_sem, Instr.index, h1, hD]
  try omega
theorem wpList_index_pt {ops : Array Oper} {rest : List Oper} {o : Oper} {a : Act} {w : World} {Q : Exit → Act → World → Prop} (hgd : o.guard = none) (y i : Operand) (ho : o.op = .index 44 y i) {D : Array Value} {k : Nat} {x : Int} (hy : a.eval y = .agg D) (hi : a.eval i = .int .i64 (k : Int)) (hk : k < 3) (hD : D[k]? = some (.int .i64 x))
    (h : wpList Tryz.prog ops Q rest (a.put o.dst (.int .i64 x)) w) : wpList Tryz.prog ops Q (o :: rest) a w :=
  wpList_plain hgd fun _ hK => by
    unfold Oper.wp execOp
    simp only [ho, hy, hi, Sem.run_bind, run_index_pt hk hD, Result.andThen_ok, Sem.run_pure]
    exact hK _ _ h
theorem OwF.form {B : Nat} {w : World} {v : Value} {S : List Nat} (h : OwF B w v S) : ∃ a n c, v = .slice a n c := by
  rcases h.2 with ⟨h0, _⟩ | ⟨g, cap, cur, e1, _⟩
  · exact ⟨_, _, _, h0⟩
  · exact ⟨_, _, _, e1⟩
theorem words_kind {g : Gd} {kn : Nat} {t : ByteArray} (hk : g.kind = (kn : Int)) (ht : kindW.getD kn ⟨#[]⟩ = t) : wordsG g = [t] ++ bodyW g := by
  unfold wordsG
  rw [hk, Int.toNat_natCast, ht]; rfl
theorem bodyW_1 {g : Gd} (h : g.kind = 1) : bodyW g = g.whe.map textF := by unfold bodyW; rw [if_pos h]
theorem bodyW_2 {g : Gd} (h : g.kind = 2) : bodyW g = g.lst.map textF := by unfold bodyW; rw [if_neg (by omega), if_pos h]
theorem bodyW_3 {g : Gd} (h : g.kind = 3) : bodyW g = g.cvs.flatMap cvW := by unfold bodyW; rw [if_neg (by omega), if_neg (by omega), if_pos h]
theorem bodyW_4 {g : Gd} (h : g.kind = 4) : bodyW g = g.mix.map textF := by unfold bodyW; rw [if_neg (by omega), if_neg (by omega), if_neg (by omega), if_pos h]
theorem bodyW_5 {g : Gd} (h : g.kind = 5) : bodyW g = [textF g.piv, textF g.amt] := by unfold bodyW; rw [if_neg (by omega), if_neg (by omega), if_neg (by omega), if_neg (by omega), if_pos h]
theorem bodyW_6 {g : Gd} (h : g.kind = 6) : bodyW g = g.pts.map itoaB := by unfold bodyW; rw [if_neg (by omega), if_neg (by omega), if_neg (by omega), if_neg (by omega), if_neg (by omega), if_pos h]
theorem Ws.form {W0 W1 w : World} {p : Nat} {L : List ByteArray} {v : Value} (h : Ws W0 p W1 L v w) : ∃ a n c, v = .slice a n c := h.2.2.2.form
end
end Go.Proofs.YticekgnmiaidjaaGreatDoor
