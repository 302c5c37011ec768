/- The first word of a printed grade: what a drawn region of eight operations keeps. -/
import Derived.Test.YticekgnmiaidjaaGreatDoorGrT
namespace Go.Proofs.YticekgnmiaidjaaGreatDoor
open Go.RowKit Go.Lib

theorem GdAt.keep {w w' : World} {C : Array Value} {g : Gd} (h : GdAt w C g) (hb : Below w.heap.size w w') : GdAt w' C g :=
  ⟨h.size, h.one, h.kind, h.whe, h.lst, ⟨h.cvs.1, fun i c hc => ⟨(h.cvs.2 i c hc).1, (by obtain ⟨vx, e, s⟩ := (h.cvs.2 i c hc).2.1; exact ⟨vx, e, s.keep hb⟩), (by obtain ⟨vy, e, s⟩ := (h.cvs.2 i c hc).2.2; exact ⟨vy, e, s.keep hb⟩)⟩⟩, h.mix, h.piv, h.amt, h.pts⟩
/-- The first word, under way. -/
structure W5 (W0 W1 : World) (t : ByteArray) (kn : Nat) (d0 d3 d5 d6 d7 : Bool) (v0 v3 v5 v6 : Value) (w : World) : Prop where
  bel : Below W0.heap.size W0 w
  kp : Kp W1 w
  a0 : d0 = true → ∃ g, v0 = .slice (some ⟨g, 0, none⟩) 7 7 ∧ Bx w g 9 (kindW.map Value.string).toArray
  a3 : d3 = true → ∃ g, v3 = .pointer (some ⟨g, kn, none⟩) ∧ Bx w g 9 (kindW.map Value.string).toArray
  a5 : d5 = true → ∃ g, v5 = .slice (some ⟨g, 0, none⟩) 1 1 ∧ W0.heap.size ≤ g ∧ Bx w g 9 #[.string t]
  a6 : d6 = true → ∃ p, v6 = .pointer (some ⟨p, 0, none⟩) ∧ W0.heap.size ≤ p ∧ Bx w p 60 #[if d7 then v5 else .slice none 0 0]
  a7 : d7 = true → d5 = true ∧ d6 = true
theorem Bx.ne {w : World} {a b : Nat} {T U : TypeId} {C D : Array Value} (h : Bx w a T C) (g : Bx w b U D) (ht : T ≠ U) : a ≠ b := by
  rintro rfl
  have h' : w.heap[a]? = _ := h
  have := h'.symm.trans g
  injection this with this
  injection this with _ e _
  exact ht e
section
variable {W0 W1 : World} {t : ByteArray} {kn : Nat} {d0 d3 d5 d6 d7 : Bool} {v0 v3 v5 v6 : Value} {w w' : World}
theorem W5.keep (h : W5 W0 W1 t kn d0 d3 d5 d6 d7 v0 v3 v5 v6 w) (hb : Below w.heap.size w w') : W5 W0 W1 t kn d0 d3 d5 d6 d7 v0 v3 v5 v6 w' := by
  obtain ⟨b1, b2, b3, b3', b4, b5, b6⟩ := h
  refine ⟨b1.trans (hb.mono b1.size), b2.trans (Kp.below hb), fun e => ?_, fun e => ?_, fun e => ?_, fun e => ?_, b6⟩
  · obtain ⟨g, e1, e2⟩ := b3 e; exact ⟨g, e1, e2.keep hb⟩
  · obtain ⟨g, e1, e2⟩ := b3' e; exact ⟨g, e1, e2.keep hb⟩
  · obtain ⟨g, e1, e2, e3⟩ := b4 e; exact ⟨g, e1, e2, e3.keep hb⟩
  · obtain ⟨g, e1, e2, e3⟩ := b5 e; exact ⟨g, e1, e2, e3.keep hb⟩
theorem W5.set0 (h : W5 W0 W1 t kn d0 d3 d5 d6 d7 v0 v3 v5 v6 w) {g : Nat} (hx : Bx w g 9 (kindW.map Value.string).toArray) : W5 W0 W1 t kn true d3 d5 d6 d7 (.slice (some ⟨g, 0, none⟩) 7 7) v3 v5 v6 w :=
  ⟨h.bel, h.kp, fun _ => ⟨g, rfl, hx⟩, h.a3, h.a5, h.a6, h.a7⟩
theorem W5.set3 (h : W5 W0 W1 t kn d0 d3 d5 d6 d7 v0 v3 v5 v6 w) {g : Nat} (hx : Bx w g 9 (kindW.map Value.string).toArray) : W5 W0 W1 t kn d0 true d5 d6 d7 v0 (.pointer (some ⟨g, kn, none⟩)) v5 v6 w :=
  ⟨h.bel, h.kp, h.a0, fun _ => ⟨g, rfl, hx⟩, h.a5, h.a6, h.a7⟩
theorem W5.set5 (h : W5 W0 W1 t kn d0 d3 d5 d6 d7 v0 v3 v5 v6 w) (h5 : d5 = false) : W5 W0 W1 t kn d0 d3 true d6 d7 v0 v3 (.slice (some ⟨w.heap.size, 0, none⟩) 1 1) v6 (w.alloc (.cells #[.string t] 9)) := by
  have k := h.keep (bnew (Below.refl _ w) (ob := .cells #[.string t] 9))
  have h7 : d7 = false := by
    cases d7
    · rfl
    · have := (h.a7 rfl).1; rw [h5] at this; cases this
  subst h7
  exact ⟨k.bel, k.kp, k.a0, k.a3, fun _ => ⟨_, rfl, h.bel.size, Bx.new _ _ _⟩, k.a6, fun e => by cases e⟩
theorem W5.set6 (h : W5 W0 W1 t kn d0 d3 d5 d6 d7 v0 v3 v5 v6 w) (h6 : d6 = false) : W5 W0 W1 t kn d0 d3 d5 true d7 v0 v3 v5 (.pointer (some ⟨w.heap.size, 0, none⟩)) (w.alloc (.cells #[.slice none 0 0] 60)) := by
  have k := h.keep (bnew (Below.refl _ w) (ob := .cells #[.slice none 0 0] 60))
  have h7 : d7 = false := by
    cases d7
    · rfl
    · have := (h.a7 rfl).2; rw [h6] at this; cases this
  subst h7
  exact ⟨k.bel, k.kp, k.a0, k.a3, k.a5, fun _ => ⟨_, rfl, h.bel.size, Bx.new _ _ _⟩, fun e => by cases e⟩
theorem W5.set7 (h : W5 W0 W1 t kn d0 d3 d5 d6 d7 v0 v3 v5 v6 w) {p g1 : Nat} (hv6 : v6 = .pointer (some ⟨p, 0, none⟩)) (hv5 : v5 = .slice (some ⟨g1, 0, none⟩) 1 1) (h5 : d5 = true) (h6 : d6 = true) (h7 : d7 = false) :
    W5 W0 W1 t kn d0 d3 d5 d6 true v0 v3 v5 v6 (w.setCell ⟨p, 0, none⟩ (.slice (some ⟨g1, 0, none⟩) 1 1)) := by
  subst h5; subst h6; subst h7
  obtain ⟨b1, b2, b3, b3', b4, b5, b6⟩ := h
  obtain ⟨p', e1, e2, e3⟩ := b5 rfl
  rw [hv6] at e1
  obtain rfl : p = p' := by injection e1 with e; injection e with e; injection e
  refine ⟨b1.setCell (p := ⟨p, 0, none⟩) e2 _, ?_, fun e => ?_, fun e => ?_, fun e => ?_, fun e => ?_, fun _ => ⟨rfl, rfl⟩⟩
  · intro k cs T mk h1 h2 h3
    have h4 := b2 k cs T mk h1 h2 h3
    rw [Below.heap_setCell]
    · exact h4
    · rintro rfl
      have := h4.symm.trans e3
      injection this with this
      injection this with _ e5 _
      exact h3 e5
  · obtain ⟨g, f1, f2⟩ := b3 e; exact ⟨g, f1, f2.other _ _ (f2.ne e3 (by decide))⟩
  · obtain ⟨g, f1, f2⟩ := b3' e; exact ⟨g, f1, f2.other _ _ (f2.ne e3 (by decide))⟩
  · obtain ⟨g, f1, f0, f2⟩ := b4 e; exact ⟨g, f1, f0, f2.other _ _ (f2.ne e3 (by decide))⟩
  · exact ⟨p, hv6, e2, by rw [if_pos rfl, hv5]; exact e3.set 0 _⟩
theorem W5.ws (h : W5 W0 W1 t kn true true true true true v0 v3 v5 v6 w) : ∃ p v, v6 = .pointer (some ⟨p, 0, none⟩) ∧ W0.heap.size ≤ p ∧ Ws W0 p W1 [t] v w := by
  obtain ⟨p, e1, e2, e3⟩ := h.a6 rfl
  obtain ⟨g, f1, f2, f3⟩ := h.a5 rfl
  rw [if_pos rfl] at e3
  exact ⟨p, v5, e1, e2, h.bel, h.kp, e3, ⟨rfl, .inr ⟨g, 1, _, f1, f2, f3, Nat.le_refl _, by decide, rfl, rfl⟩⟩⟩
end
theorem run_catG {P : Program} {o : Oper} {a : Act} {w : World} {T1 T2 : TypeId} {s1 s2 : Operand} {x y : ByteArray} (ho : o.op = .binOp .add T1 s1 s2 T2) (h1 : a.eval s1 = .string x) (h2 : a.eval s2 = .string y) (hs : x.size + y.size ≤ 1000000000000) : (execOp a.eval o).run P w = .ok (.value (.string (x ++ y))) w := by
  obtain ⟨d, op, ty, ps, af, gd⟩ := o
  simp only at ho
  subst ho
  have hc : ¬ ((x.size + y.size : Nat) : Int) > IntKind.i64.max := by
    have : IntKind.i64.max = 9223372036854775807 := by decide
    rw [this]; omega
  have e : (Op.stringOp .add x y).run P w = .ok (.string (x ++ y)) w := by
    unfold Op.stringOp
    simp only [if_neg hc]
    rfl
  have e0 : ∀ u : World, Sem.run P (if (!false) = true then (pure () : Sem Unit) else pure ()) u = .ok () u := fun _ => rfl
  simp [execOp, h1, h2]
  simp only [eqGuard, binOp]
  rw [e0]
  simp only [Result.andThen]
  rw [e]
/-- Two texts put together, in a region that draws no order. -/
theorem wpList_cat {ops : Array Oper} {rest : List Oper} {o : Oper} {a : Act} {w : World} {Q : Exit → Act → World → Prop} {T1 T2 : TypeId} {s1 s2 : Operand} {x y : ByteArray} (hgd : o.guard = none) (ho : o.op = .binOp .add T1 s1 s2 T2) (h1 : a.eval s1 = .string x) (h2 : a.eval s2 = .string y) (hs : x.size + y.size ≤ 1000000000000)
    (h : wpList Tryz.prog ops Q rest (a.put o.dst (.string (x ++ y))) w) : wpList Tryz.prog ops Q (o :: rest) a w :=
  wpList_plain hgd fun _ hK => by
    unfold Oper.wp
    rw [run_catG (P := Tryz.prog) ho h1 h2 hs]
    exact hK _ _ h
/-- A call through a function value in a slot. -/
theorem run_go_callv {P : Program} {f : FuncId} {fn : Func} (hf : P.funcs[f]? = some fn) (hn : (fn.name == "runtime.NumGoroutine") = false) (hb : fn.body.isNone = false)
    (a : Act) (dst : Option Tmp) (t : Tmp) (cap : Array Value) (xs : Array Operand) (ats : Array TypeId) (ty : TypeId) (pos : String) (after : Array Edge) (guard : Option (Nat × Bool)) (w : World) (args : Array Value)
    (ht : a.tmps[t]?.getD undef = .func (.func f) #[] cap) (hx : xs.map a.eval ++ cap = args) :
    (execOp a.eval { dst, op := .call { callee := .value (.tmp t), args := xs, argTypes := ats }, type := ty, pos, after, guard }).run P w = .ok (.enter f args) w := by
  have h1 : fn.name ≠ "runtime.NumGoroutine" := by simpa using hn
  have h2 : ¬ fn.body = none := by intro e; rw [e] at hb; cases hb
  subst hx
  have ht' : a.eval (.tmp t) = .func (.func f) #[] cap := by simpa [Act.eval] using ht
  simp only [execOp, resolve, ht', Deferred.ofValue]
  simp [invoke, callFunc, hf, h1, h2]

/-- Slices gathered, joined to one, said: regions 9 and 11. -/
structure WC (W0 : World) (p : Nat) (W1 : World) (L : List ByteArray) (v : Value) (xs : List Nat) (m : Nat) (d10 d11 d12 : Bool) (v10 v11 : Value) (w : World) : Prop where
  bel : W0.heap.size ≤ w.heap.size
  f : d12 = true → d11 = true
  f2 : d11 = true → d10 = true
  a : d12 = false → Ws W0 p W1 L v w
  b : d10 = true → d12 = false → ∃ (g : Nat) (rows : List SlF), v10 = .slice (some ⟨g, 0, none⟩) m m ∧ rows.length = m ∧ flatS rows = xs ∧ Bx w g 37 (rows.map SlF.v).toArray ∧ ∀ (k : Nat) (r : SlF), rows[k]? = some r → r.g < w.heap.size ∧ ∀ (j : Nat) (u : Value), (r.xs.map (Value.float .f32))[j]? = some u → w.cell? ((⟨r.g, r.o, none⟩ : Addr).add j) = some u
  c : d11 = true → d12 = false → OwF W0.heap.size w v11 xs
  e : d12 = true → ∃ v', Ws W0 p W1 (L ++ xs.map textF) v' w
section
variable {W0 W1 : World} {p m : Nat} {L : List ByteArray} {v : Value} {xs : List Nat} {d10 d11 d12 : Bool} {v10 v11 : Value} {w w' : World}
theorem WC.keep (h : WC W0 p W1 L v xs m d10 d11 d12 v10 v11 w) (hb : Below w.heap.size w w') : WC W0 p W1 L v xs m d10 d11 d12 v10 v11 w' := by
  refine ⟨Nat.le_trans h.bel hb.size, h.f, h.f2, fun e => (h.a e).keep hb, fun e f => ?_, fun e f => (h.c e f).keep hb, fun e => ?_⟩
  · obtain ⟨g, rows, e1, e2, e3, e4, e5⟩ := h.b e f
    refine ⟨g, rows, e1, e2, e3, e4.keep hb, fun k r hr => ⟨Nat.lt_of_lt_of_le (e5 k r hr).1 hb.size, fun j u hj => ?_⟩⟩
    rw [hb.cell (p := (⟨r.g, r.o, none⟩ : Addr).add j) (by unfold Addr.add; split <;> exact (e5 k r hr).1)]
    exact (e5 k r hr).2 j u hj
  · obtain ⟨v', h'⟩ := h.e e
    exact ⟨v', h'.keep hb⟩
theorem WC.set10 (h : WC W0 p W1 L v xs m d10 d11 d12 v10 v11 w) (rows : List SlF) (hm : rows.length = m) (hx : flatS rows = xs) (cs : Array Value) (hcs : cs = (rows.map SlF.v).toArray)
    (hr : ∀ (k : Nat) (r : SlF), rows[k]? = some r → r.g < w.heap.size ∧ ∀ (j : Nat) (u : Value), (r.xs.map (Value.float .f32))[j]? = some u → w.cell? ((⟨r.g, r.o, none⟩ : Addr).add j) = some u) :
    WC W0 p W1 L v xs m true d11 d12 (.slice (some ⟨w.heap.size, 0, none⟩) m m) v11 (w.alloc (.cells cs 37)) := by
  subst hcs
  have hb := bnew (Below.refl _ w) (ob := .cells (rows.map SlF.v).toArray 37)
  have k := h.keep hb
  refine ⟨k.bel, k.f, fun _ => rfl, k.a, fun _ _ => ⟨w.heap.size, rows, rfl, hm, hx, Bx.new _ _ _, fun q r hq => ⟨Nat.lt_of_lt_of_le (hr q r hq).1 hb.size, fun j u hj => ?_⟩⟩, k.c, k.e⟩
  rw [hb.cell (p := (⟨r.g, r.o, none⟩ : Addr).add j) (by unfold Addr.add; split <;> exact (hr q r hq).1)]
  exact (hr q r hq).2 j u hj
theorem WC.set11 (h : WC W0 p W1 L v xs m d10 d11 d12 v10 v11 w) (h10 : d10 = true) {u : Value} (ho : OwF w.heap.size w' u xs) (hb : Below w.heap.size w w') : WC W0 p W1 L v xs m d10 true d12 v10 u w' :=
  have k := h.keep hb
  ⟨k.bel, fun _ => rfl, fun _ => h10, k.a, k.b, fun _ _ => ho.mono h.bel, k.e⟩
theorem WC.set12 (h11 : d11 = true) (h10 : d10 = true) (hw : ∃ v', Ws W0 p W1 (L ++ xs.map textF) v' w') : WC W0 p W1 L v xs m d10 d11 true v10 v11 w' :=
  ⟨(by obtain ⟨_, h⟩ := hw; exact h.1.size), fun _ => h11, fun _ => h10, fun e => (by cases e), fun _ e => (by cases e), fun _ e => (by cases e), fun _ => hw⟩
theorem WC.kp (h : WC W0 p W1 L v xs m d10 d11 d12 v10 v11 w) : Kp W1 w ∧ Below W0.heap.size W0 w := by
  cases hd : d12 with
  | false => exact ⟨(h.a hd).2.1, (h.a hd).1⟩
  | true => obtain ⟨v', h'⟩ := h.e hd; exact ⟨h'.2.1, h'.1⟩
theorem WC.no12 (h : WC W0 p W1 L v xs m d10 d11 d12 v10 v11 w) (h11 : d11 = false) : d12 = false := by
  cases hd : d12 with
  | false => rfl
  | true => have := h.f hd; rw [h11] at this; cases this
theorem WC.no12x (h : WC W0 p W1 L v xs m d10 d11 d12 v10 v11 w) (h10 : d10 = false) : d12 = false :=
  h.no12 (by
    cases hd : d11 with
    | false => rfl
    | true => have := h.f2 hd; rw [h10] at this; cases this)
theorem WC.start (h : Ws W0 p W1 L v w) (v10 v11 : Value) : WC W0 p W1 L v xs m false false false v10 v11 w :=
  ⟨h.1.size, fun e => (by cases e), fun e => (by cases e), fun _ => h, fun e => (by cases e), fun e => (by cases e), fun e => (by cases e)⟩
/-- Singles laid side by side and said: region 22. -/
structure WP (W0 : World) (p : Nat) (W1 : World) (L : List ByteArray) (v : Value) (xs : List Nat) (d11 d12 : Bool) (v11 : Value) (w : World) : Prop where
  a : d12 = false → Ws W0 p W1 L v w
  b : d11 = true → d12 = false → ∃ g, v11 = .slice (some ⟨g, 0, none⟩) xs.length xs.length ∧ Bx w g 23 (xs.map (Value.float .f32)).toArray
  e : d12 = true → ∃ v', Ws W0 p W1 (L ++ xs.map textF) v' w
theorem WP.keep (h : WP W0 p W1 L v xs d11 d12 v11 w) (hb : Below w.heap.size w w') : WP W0 p W1 L v xs d11 d12 v11 w' := by
  refine ⟨fun e => (h.a e).keep hb, fun e f => ?_, fun e => ?_⟩
  · obtain ⟨g, e1, e2⟩ := h.b e f
    exact ⟨g, e1, e2.keep hb⟩
  · obtain ⟨v', h'⟩ := h.e e
    exact ⟨v', h'.keep hb⟩
theorem WP.set11 (h : WP W0 p W1 L v xs d11 d12 v11 w) (n : Nat) (hn : n = xs.length) (cs : Array Value) (hc : cs = (xs.map (Value.float .f32)).toArray) : WP W0 p W1 L v xs true d12 (.slice (some ⟨w.heap.size, 0, none⟩) n n) (w.alloc (.cells cs 23)) := by
  subst hn; subst hc
  have k := h.keep (bnew (Below.refl _ w) (ob := .cells (xs.map (Value.float .f32)).toArray 23))
  exact ⟨k.a, fun _ _ => ⟨_, rfl, Bx.new _ _ _⟩, k.e⟩
theorem WP.kp (h : WP W0 p W1 L v xs d11 d12 v11 w) : Kp W1 w ∧ Below W0.heap.size W0 w := by
  cases hd : d12 with
  | false => exact ⟨(h.a hd).2.1, (h.a hd).1⟩
  | true => obtain ⟨v', h'⟩ := h.e hd; exact ⟨h'.2.1, h'.1⟩
end
/-- The cells of a row of memory, for slices.Concat. -/
theorem rows_of {w : World} {b : Nat} {T : TypeId} {C : Array Value} (hx : Bx w b T C) (r : SlF) (hg : r.g = b) (hc : ∀ j, j < r.xs.length → C[r.o + j]? = some (.float .f32 (r.xs.getD j 0))) :
    r.g < w.heap.size ∧ ∀ (j : Nat) (u : Value), (r.xs.map (Value.float .f32))[j]? = some u → w.cell? ((⟨r.g, r.o, none⟩ : Addr).add j) = some u := by
  subst hg
  refine ⟨hx.lt, fun j u hj => ?_⟩
  rw [add_none, hx.all.1]
  rw [List.getElem?_map] at hj
  cases hq : r.xs[j]? with
  | none => rw [hq] at hj; cases hj
  | some x =>
    rw [hq] at hj
    have hl := (List.getElem?_eq_some_iff.1 hq).1
    rw [hc j hl, List.getD_eq_getElem?_getD, hq]
    simpa using hj
/-- The append in a region that draws no order. -/
theorem wpList_wx_append {W0 W1 w : World} {p : Nat} {v : Value} {L T : List ByteArray} {d5 : Bool} {v3 v4 : Value} (h : WX W0 p v W1 L T true true false d5 v3 v4 w) (hT : 0 < T.length) (hL : L.length + T.length ≤ 1000000) {ops : Array Oper} {rest : List Oper} {o : Oper} {a : Act} {Q : Exit → Act → World → Prop} (hgd : o.guard = none) (s x : Operand)
    (ho : o.op = .call { callee := .builtin .append, args := #[s, x], argTypes := #[60, 60] }) (hs : a.eval s = v) (hx : a.eval x = v3)
    (hK : ∀ v' w', WX W0 p v W1 L T true true true d5 v3 v' w' → wpList Tryz.prog ops Q rest (a.put o.dst v') w') : wpList Tryz.prog ops Q (o :: rest) a w :=
  wpList_plain hgd fun _ hk => wx_append h hT hL s x ho hs hx fun v' w' h' => hk _ _ (hK v' w' h')
/-- An element of an array of aggregates, of integers. -/
theorem run_index_cv {D : Array Value} {k : Nat} (hk : k < 4) (w : World) : (Instr.index 40 (.agg D) (.int .i64 (k : Int))).run Tryz.prog w = .ok (.agg (D.extract (k * 3) (k * 3 + 3))) w := by
  have h1 : (0 : Int) ≤ (k : Int) ∧ (k : Int) < ((4 : Nat) : Int) := by omega
  simp [go_sem, Instr.index, h1]
  try omega
theorem wpList_index_cv {ops : Array Oper} {rest : List Oper} {o : Oper} {a : Act} {w : World} {Q : Exit → Act → World → Prop} (hgd : o.guard = none) (x i : Operand) (ho : o.op = .index 40 x i) {D : Array Value} {k : Nat} (hx : a.eval x = .agg D) (hi : a.eval i = .int .i64 (k : Int)) (hk : k < 4) {D3 : Array Value} (hE : D.extract (k * 3) (k * 3 + 3) = D3)
    (h : wpList Tryz.prog ops Q rest (a.put o.dst (.agg D3)) w) : wpList Tryz.prog ops Q (o :: rest) a w :=
  wpList_plain hgd fun _ hK => by
    subst hE
    unfold Oper.wp execOp
    simp only [ho, hx, hi, Sem.run_bind, run_index_cv hk, Result.andThen_ok, Sem.run_pure]
    exact hK _ _ h
theorem extract3 {D : Array Value} {j : Nat} {a b c : Value} (h0 : D[j * 3]? = some a) (h1 : D[j * 3 + 1]? = some b) (h2 : D[j * 3 + 2]? = some c) : D.extract (j * 3) (j * 3 + 3) = #[a, b, c] := by
  have hl := (Array.getElem?_eq_some_iff.1 h2).1
  apply Array.ext_getElem?
  intro i
  rw [Array.getElem?_extract]
  by_cases h : i < 3
  · rw [if_pos (by omega)]
    rcases (by omega : i = 0 ∨ i = 1 ∨ i = 2) with rfl | rfl | rfl
    · exact h0
    · exact h1
    · exact h2
  · rw [if_neg (by omega)]
    exact (Array.getElem?_eq_none (show 3 ≤ i by omega)).symm
theorem curve_size : (Tryz.prog.info? 39).map (·.size) = some 3 := by kernel_rfl
theorem curve_store (w : World) {C : Array Value} (hn : C.size = 3) (h1 : C.all (·.oneCell') = true) : (storeCells ⟨w.heap.size, 0, none⟩ C.toList 0).run Tryz.prog (w.alloc (.cells #[.int .i64 0, .slice none 0 0, .slice none 0 0] 39)) = .ok () (w.alloc (.cells C 39)) :=
  run_storeCells_new w _ _ C (by rw [hn]; exact curve_size) hn.symm h1
theorem Sl.form {w : World} {v : Value} {xs : List Nat} (h : Sl w v xs) : ∃ a n c, v = .slice a n c := by
  rcases h with ⟨b, o, c, h1, _⟩ | ⟨_, a, c, h1⟩
  · exact ⟨_, _, _, h1⟩
  · exact ⟨_, _, _, h1⟩
/-- The word of a curve's kind, under way. -/
structure CW (ck : Nat) (d1 d4 d11 : Bool) (v1 v4 : Value) (w : World) : Prop where
  a1 : d1 = true → d11 = false → ∃ g1, v1 = .slice (some ⟨g1, 0, none⟩) 3 3 ∧ Bx w g1 9 (curveW.map Value.string).toArray
  a4 : d4 = true → d11 = false → ∃ g1, v4 = .pointer (some ⟨g1, ck, none⟩) ∧ Bx w g1 9 (curveW.map Value.string).toArray
section
variable {ck : Nat} {d1 d4 d11 : Bool} {v1 v4 : Value} {w w' : World}
theorem CW.keep (h : CW ck d1 d4 d11 v1 v4 w) (hb : Below w.heap.size w w') : CW ck d1 d4 d11 v1 v4 w' := by
  refine ⟨fun e f => ?_, fun e f => ?_⟩
  · obtain ⟨g, e1, e2⟩ := h.a1 e f; exact ⟨g, e1, e2.keep hb⟩
  · obtain ⟨g, e1, e2⟩ := h.a4 e f; exact ⟨g, e1, e2.keep hb⟩
theorem CW.set1 (h : CW ck d1 d4 d11 v1 v4 w) (cs : Array Value) (hc : cs = (curveW.map Value.string).toArray) : CW ck true d4 d11 (.slice (some ⟨w.heap.size, 0, none⟩) 3 3) v4 (w.alloc (.cells cs 9)) := by
  subst hc
  exact ⟨fun _ _ => ⟨_, rfl, Bx.new _ _ _⟩, (h.keep (bnew (Below.refl _ _))).a4⟩
theorem CW.set4 (h : CW ck d1 d4 d11 v1 v4 w) {g : Nat} (hx : Bx w g 9 (curveW.map Value.string).toArray) : CW ck d1 true d11 v1 (.pointer (some ⟨g, ck, none⟩)) w := ⟨h.a1, fun _ _ => ⟨_, rfl, hx⟩⟩
theorem CW.done (h : d11 = true) : CW ck d1 d4 d11 v1 v4 w := ⟨fun _ e => (by rw [h] at e; cases e), fun _ e => (by rw [h] at e; cases e)⟩
end
theorem cvW_none {c : Cv} (h : c.xs = []) : cvW c = [⟨#[45]⟩] := by unfold cvW; rw [h]; rfl
theorem cvW_some {c : Cv} (h : c.xs.length ≠ 0) {ck : Nat} (hk : c.kind = (ck : Int)) {wd : ByteArray} (hw : curveW.getD ck ⟨#[]⟩ = wd) : cvW c = [wd, itoaB (c.xs.length : Int)] ++ pairW c.xs c.ys c.xs.length := by
  unfold cvW
  rw [if_neg h, hk, Int.toNat_natCast, hw]; rfl
theorem run_index_pt {D : Array Value} {k : Nat} {x : Int} (hk : k < 3) (hD : D[k]? = some (.int .i64 x)) (w : World) : (Instr.index 44 (.agg D) (.int .i64 (k : Int))).run Tryz.prog w = .ok (.int .i64 x) w := by
  have h1 : (0 : Int) ≤ (k : Int) ∧ (k : Int) < ((3 : Nat) : Int) := by omega
  simp [go_sem, Instr.index, h1, hD]
  try omega
theorem wpList_index_pt {ops : Array Oper} {rest : List Oper} {o : Oper} {a : Act} {w : World} {Q : Exit → Act → World → Prop} (hgd : o.guard = none) (y i : Operand) (ho : o.op = .index 44 y i) {D : Array Value} {k : Nat} {x : Int} (hy : a.eval y = .agg D) (hi : a.eval i = .int .i64 (k : Int)) (hk : k < 3) (hD : D[k]? = some (.int .i64 x))
    (h : wpList Tryz.prog ops Q rest (a.put o.dst (.int .i64 x)) w) : wpList Tryz.prog ops Q (o :: rest) a w :=
  wpList_plain hgd fun _ hK => by
    unfold Oper.wp execOp
    simp only [ho, hy, hi, Sem.run_bind, run_index_pt hk hD, Result.andThen_ok, Sem.run_pure]
    exact hK _ _ h
theorem OwF.form {B : Nat} {w : World} {v : Value} {S : List Nat} (h : OwF B w v S) : ∃ a n c, v = .slice a n c := by
  rcases h.2 with ⟨h0, _⟩ | ⟨g, cap, cur, e1, _⟩
  · exact ⟨_, _, _, h0⟩
  · exact ⟨_, _, _, e1⟩
theorem words_kind {g : Gd} {kn : Nat} {t : ByteArray} (hk : g.kind = (kn : Int)) (ht : kindW.getD kn ⟨#[]⟩ = t) : wordsG g = [t] ++ bodyW g := by
  unfold wordsG
  rw [hk, Int.toNat_natCast, ht]; rfl
theorem bodyW_1 {g : Gd} (h : g.kind = 1) : bodyW g = g.whe.map textF := by unfold bodyW; rw [if_pos h]
theorem bodyW_2 {g : Gd} (h : g.kind = 2) : bodyW g = g.lst.map textF := by unfold bodyW; rw [if_neg (by omega), if_pos h]
theorem bodyW_3 {g : Gd} (h : g.kind = 3) : bodyW g = g.cvs.flatMap cvW := by unfold bodyW; rw [if_neg (by omega), if_neg (by omega), if_pos h]
theorem bodyW_4 {g : Gd} (h : g.kind = 4) : bodyW g = g.mix.map textF := by unfold bodyW; rw [if_neg (by omega), if_neg (by omega), if_neg (by omega), if_pos h]
theorem bodyW_5 {g : Gd} (h : g.kind = 5) : bodyW g = [textF g.piv, textF g.amt] := by unfold bodyW; rw [if_neg (by omega), if_neg (by omega), if_neg (by omega), if_neg (by omega), if_pos h]
theorem bodyW_6 {g : Gd} (h : g.kind = 6) : bodyW g = g.pts.map itoaB := by unfold bodyW; rw [if_neg (by omega), if_neg (by omega), if_neg (by omega), if_neg (by omega), if_neg (by omega), if_pos h]
theorem Ws.form {W0 W1 w : World} {p : Nat} {L : List ByteArray} {v : Value} (h : Ws W0 p W1 L v w) : ∃ a n c, v = .slice a n c := h.2.2.2.form
end Go.Proofs.YticekgnmiaidjaaGreatDoor
