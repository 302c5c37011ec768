/- conform.Merge. (printed by gen_lks.py) -/
import Derived.Test.YticekgnmiaidjaaGreatDoorLkK
import Derived.Test.YticekgnmiaidjaaGreatDoorLkT
namespace Go.Proofs.YticekgnmiaidjaaGreatDoor

section
open Go.RowKit Go.Lib

/-- A right look whose singles are words. -/
structure LookR (rows : List Rw) : Prop where
  ok : LookOk rows
  wd : ∀ r ∈ rows, ∀ g ∈ r.2, GdW g
theorem LookR.right {rows : List Rw} (h : LookR rows) : ∀ s gs, getR rows s = some gs → RightL gs := fun s gs hg => by
  have hm := getR_row hg
  exact ⟨h.ok.gr _ hm, h.wd _ hm⟩
theorem LookR.row {rows : List Rw} (h : LookR rows) : ∀ r ∈ rows, RightL r.2 := fun r hm => ⟨h.ok.gr _ hm, h.wd _ hm⟩
theorem LookR.size {rows : List Rw} (h : LookR rows) : ∀ r ∈ rows, r.1.size ≤ maxLen := fun r hm => by
  have h1 := h.ok.nam r hm
  simp only [nameB, Bool.and_eq_true, decide_eq_true_eq] at h1
  have := h1.1.2
  unfold maxLen; omega
theorem names_mem {o t u : List Rw} {s : ByteArray} : s ∈ namesM o t u ↔ (s ∈ o.map (·.1) ∨ s ∈ t.map (·.1)) ∨ s ∈ u.map (·.1) := by
  unfold namesM
  rw [(allS_spec _).2, List.mem_append, List.mem_append]
theorem names_size {o t u : List Rw} (ho : LookR o) (ht : LookR t) (hu : LookR u) : ∀ s ∈ namesM o t u, s.size ≤ maxLen := fun s hs => by
  rcases names_mem.1 hs with (h | h) | h
  · obtain ⟨r, hr, rfl⟩ := List.mem_map.1 h; exact ho.size r hr
  · obtain ⟨r, hr, rfl⟩ := List.mem_map.1 h; exact ht.size r hr
  · obtain ⟨r, hr, rfl⟩ := List.mem_map.1 h; exact hu.size r hr
theorem names_len {o t u : List Rw} (ho : LookR o) (ht : LookR t) (hu : LookR u) : (namesM o t u).length ≤ 1500 := by
  have h := allS_len (o.map (·.1) ++ t.map (·.1) ++ u.map (·.1))
  have h1 := ho.ok.len
  have h2 := ht.ok.len
  have h3 := hu.ok.len
  simp only [List.length_append, List.length_map] at h
  unfold namesM; omega
theorem names_srt (o t u : List Rw) : (namesM o t u).Pairwise ltS := (allS_spec _).1
/-- What a table under way has. -/
def outF (S : List ByteArray) (f : ByteArray → Option (List Gd)) (k : Nat) (s : ByteArray) : Option (List Gd) := if ((S.take k).any fun x => decide (x = s)) = true then f s else none
theorem any_mem {S : List ByteArray} {s : ByteArray} : (S.any fun x => decide (x = s)) = true ↔ s ∈ S := by simp
def outN (S : List ByteArray) (f : ByteArray → Option (List Gd)) (k : Nat) : List ByteArray := (S.take k).filter fun s => (f s).isSome
theorem outF_succ {S : List ByteArray} {f : ByteArray → Option (List Gd)} {k : Nat} {s : ByteArray} (hs : S[k]? = some s) : outF S f (k + 1) = fun x => if x = s then f s else outF S f k x := by
  funext x
  unfold outF
  rw [List.take_add_one, hs, List.any_append]
  by_cases h : x = s
  · subst h; simp
  · have h2 : (Option.toList (some s)).any (fun y => decide (y = x)) = false := by simp [Ne.symm h]
    rw [h2, Bool.or_false, if_neg h]
theorem outN_succ {S : List ByteArray} {f : ByteArray → Option (List Gd)} {k : Nat} {s : ByteArray} (hs : S[k]? = some s) : outN S f (k + 1) = outN S f k ++ if (f s).isSome then [s] else [] := by
  unfold outN
  rw [List.take_add_one, hs, List.filter_append]
  congr 1
  cases h : (f s).isSome <;> simp [h]
theorem outF_new {S : List ByteArray} {f : ByteArray → Option (List Gd)} {k : Nat} {s : ByteArray} (hs : S[k]? = some s) (hn : S.Pairwise ltS) : outF S f k s = none := by
  unfold outF
  rw [if_neg]
  intro hm
  obtain ⟨j, hj, e⟩ := List.mem_iff_getElem.1 (any_mem.1 hm)
  rw [List.length_take] at hj
  have hk := (List.getElem?_eq_some_iff.1 hs).1
  have h1 := List.pairwise_iff_getElem.1 hn j k (by omega) hk (by omega)
  rw [List.getElem_take] at e
  rw [e, (List.getElem?_eq_some_iff.1 hs).2] at h1
  exact ltS_irr _ h1
theorem outN_srt {S : List ByteArray} (f : ByteArray → Option (List Gd)) (k : Nat) (hn : S.Pairwise ltS) : (outN S f k).Pairwise ltS := hn.sublist (List.filter_sublist.trans (List.take_sublist _ _))
theorem outN_none {S : List ByteArray} {f : ByteArray → Option (List Gd)} {k : Nat} {s : ByteArray} (hs : S[k]? = some s) (hf : f s = none) (hn : S.Pairwise ltS) : outN S f (k + 1) = outN S f k ∧ outF S f (k + 1) = outF S f k := by
  refine ⟨by rw [outN_succ hs, hf]; simp, ?_⟩
  rw [outF_succ hs]
  funext x
  by_cases h : x = s
  · rw [if_pos h, h, hf, outF_new hs hn]
  · rw [if_neg h]
theorem out_rows {S : List ByteArray} {f : ByteArray → Option (List Gd)} {n : Nat} (hn : S.length = n) : rowsOf (outF S f n) (outN S f n) = rowsOf f S := by
  unfold outN
  rw [← hn, List.take_length]
  rw [← rowsOf_filter f S]
  refine rowsOf_congr fun s hs => ?_
  unfold outF
  rw [List.take_length, if_pos (any_mem.2 (List.mem_filter.1 hs).1)]
theorem out_len {S : List ByteArray} {f : ByteArray → Option (List Gd)} {n : Nat} (hn : S.length = n) : (outN S f n).length = (rowsOf f S).length := by
  rw [← rowsOf_filter f S]
  have h1 := congrArg List.length (rowsOf_fst f (S.filter fun s => (f s).isSome))
  rw [List.length_map] at h1
  rw [h1]
  unfold outN
  rw [← hn, List.take_length, List.filter_filter]
  simp
/-- A table may be read at a later memory. -/
theorem Tab.up {W0 W1 w : World} {b : Nat} {f : ByteArray → Option (List Gd)} {N : List ByteArray} (h : Tab W0 w b f N) (hb : Below W0.heap.size W0 W1) : Tab W1 w b f N := by
  obtain ⟨h1, A, h2, h3, h4⟩ := h
  refine ⟨h1, A, h2, h3, fun s => ?_⟩
  have := h4 s
  revert this
  cases getG A s <;> cases f s <;> simp only [Rel2, imp_self]
  intro hs
  exact hs.keep hb
theorem Tab.lift {W0 w w' : World} {b : Nat} {f : ByteArray → Option (List Gd)} {N : List ByteArray} (h : Tab W0 w b f N) (hb : w'.heap[b]? = w.heap[b]?) : Tab W0 w' b f N := by
  obtain ⟨h1, A, h2, h3⟩ := h
  exact ⟨h1, A, h2.lift hb, h3⟩
theorem Tab.put {W0 w' : World} {b : Nat} {f : ByteArray → Option (List Gd)} {N : List ByteArray} {A : List (ByteArray × Value)} {s : ByteArray} {v : Value} {gs : List Gd} (hp : (A.map (·.1)).Perm N) (hr : ∀ x, Rel2 W0 (getG A x) (f x)) (hA : MapG w' b (putG A s v)) (hs : f s = none) (hv : SlG W0 v gs)
    (hN : (N ++ [s]).Pairwise ltS) : Tab W0 w' b (fun x => if x = s then some gs else f x) (N ++ [s]) := by
  have hn : s ∉ A.map (·.1) := fun hm => by
    have h1 := getG_mem.2 hm
    have h2 := hr s
    rw [hs] at h2
    cases hg : getG A s with
    | none => rw [hg] at h1; cases h1
    | some v => rw [hg] at h2; exact h2.elim
  refine ⟨hN, _, hA, ?_, fun x => ?_⟩
  · unfold putG
    rw [List.map_cons, delG_fresh hn]
    exact (hp.cons s).trans (List.perm_append_singleton s _).symm
  · rw [getG_put]
    by_cases h : x = s
    · rw [if_pos h, if_pos h]; exact hv
    · rw [if_neg h, if_neg h]; exact hr x
theorem Kx.only {p : Nat} {a b c : World} (h : Kx p a b) (g : Only p b c) : Kx p a c :=
  ⟨g.os.trans h.os, g.tape.trans h.tape, g.output.trans h.output, by rw [g.size]; exact h.size, fun k hk hp => (g.block k hp).trans (h.block k hk hp)⟩
theorem szA (w : World) (o : Obj) : (w.alloc o).heap.size = w.heap.size + 1 := Array.size_push _
theorem box4 (W : World) (T : TypeId) (a b c d : Array Value) : Bx ((((W.alloc (.cells a T)).alloc (.cells b T)).alloc (.cells c T)).alloc (.cells d T)) W.heap.size T a ∧ Bx ((((W.alloc (.cells a T)).alloc (.cells b T)).alloc (.cells c T)).alloc (.cells d T)) (W.heap.size + 1) T b ∧
    Bx ((((W.alloc (.cells a T)).alloc (.cells b T)).alloc (.cells c T)).alloc (.cells d T)) (W.heap.size + 1 + 1) T c ∧ Bx ((((W.alloc (.cells a T)).alloc (.cells b T)).alloc (.cells c T)).alloc (.cells d T)) (W.heap.size + 1 + 1 + 1) T d ∧
    Below W.heap.size W ((((W.alloc (.cells a T)).alloc (.cells b T)).alloc (.cells c T)).alloc (.cells d T)) := by
  refine ⟨(((Bx.new _ _ _).alloc _).alloc _).alloc _, ?_, ?_, ?_, bnew (bnew (bnew (bnew (Below.refl _ _))))⟩
  · rw [← szA W (.cells a T)]; exact ((Bx.new _ _ _).alloc _).alloc _
  · rw [← szA W (.cells a T), ← szA _ (.cells b T)]; exact (Bx.new _ _ _).alloc _
  · rw [← szA W (.cells a T), ← szA _ (.cells b T), ← szA _ (.cells c T)]; exact Bx.new _ _ _
theorem results_cell2 {P : Program} {fn : Func} {p q r : Tmp} {ty : TypeId} (h : fn.results = #[.cell p ty, .tmp q, .tmp r]) (tmps : Array Value) (w : World) (g : Nat) (t : TypeId) (cs : Array Value) (fr : Nat × Nat) (d : TypeDesc) (x y : Value)
    (hp : tmps.getD p undef = .pointer (some ⟨g, 0, none⟩)) (hx : tmps.getD q undef = x) (hy : tmps.getD r undef = y) (hg : w.heap[g]? = some (.cells cs t fr))
    (hu : P.underlying ty = some d) (hd : (match d with | .struct _ | .array _ _ => true | _ => false) = true) (hi : (P.info? ty).map (·.size) = some cs.size) :
    (results fn tmps).run P w = .ok (.tuple #[.agg cs, x, y]) w := by
  have hp' : tmps[p]?.getD undef = .pointer (some ⟨g, 0, none⟩) := by simpa using hp
  have hx' : tmps[q]?.getD undef = x := by simpa using hx
  have hy' : tmps[r]?.getD undef = y := by simpa using hy
  simp [results, h, hp', hx', hy', asAddr, run_loadVar_row w g t ty cs fr d hg hu hd hi]
/-- The first error of three looks. -/
def err3 (o t u : List Rw) : Int := firstNZ [lookErr o, lookErr t, lookErr u]
def mErr (er : Int) (out : List Rw) : Int := if er ≠ 0 then er else if 500 < out.length then 4 else 0
/-- What a Merge hands out. -/
def MergeIs (W w' : World) (er : Int) (out : List Rw) (cf : List ByteArray) (e : Ending) : Prop :=
  (mErr er out ≠ 0 ∧ e = .returned (.tuple #[.agg #[.slice none 0 0], .slice none 0 0, .int .i64 (mErr er out)])) ∨
  (mErr er out = 0 ∧ ∃ v cv, e = .returned (.tuple #[.agg #[v], cv, .int .i64 0]) ∧ SlL w' v out ∧ OwnS W.heap.size w' cv cf)
theorem row_append {B : Nat} {w : World} {Z : List RZ} {nm : ByteArray} {gv v : Value} {ops : Array Oper} {rest : List Oper} {o : Oper} {a : Act} {Q : Exit → Act → World → Prop} (hgd : o.guard = none) (x y : Operand)
    (ho : o.op = .call { callee := .builtin .append, args := #[x, y], argTypes := #[55, 55] }) (hs : a.eval x = v) (g c : Nat) (hy : a.eval y = .slice (some ⟨g, 0, none⟩) 1 c) (hm : w.ownsRow B 89 2 v Z.length (rzC Z)) (hx : Bx w g 89 #[.string nm, gv]) (hg : gv.oneCell' = true)
    (hl : Z.length ≤ 1000000) (hB : B ≤ w.heap.size)
    (h : ∀ g' c' n' w', Hid (n' = Z.length + 1) → Hid (w'.ownsRow B 89 2 (.slice (some ⟨g', 0, none⟩) n' c') (Z.length + 1) (rzC Z ++ [.string nm, gv]) ∧ w.grownBy w' v.ownBlock ∧ (v.ownBlock = some g' ∨ g' = w.heap.size)) → wpList Tryz.prog ops Q rest (a.put o.dst (.slice (some ⟨g', 0, none⟩) n' c')) w') :
    wpList Tryz.prog ops Q (o :: rest) a w :=
  wpList_plain hgd fun _ hK => by
    obtain ⟨v', w', hr, h1, h2, h3⟩ := run_app_row x y ho hs g c hy hm hx hg hl hB
    unfold Oper.wp
    rw [hr]
    rcases h1.2 with ⟨_, h0⟩ | ⟨g', c', cur, e1, e2⟩
    · omega
    · subst e1
      refine hK _ _ (h g' c' _ w' (Lib.hid rfl) (Lib.hid ⟨h1, h2, ?_⟩))
      rcases h3 with h3 | h3
      · exact .inl (h3.symm.trans rfl)
      · exact .inr (Option.some.inj h3)
theorem name_callL {P : Program} {f : FuncId} {args : Array Value} {w0 : World} {Q : Ending → World → Prop} (h : ∀ wb, wb = w0 → Calls P f args wb Q) : Calls P f args w0 Q := h _ rfl
theorem run_index_l0 (a b c : Value) (w : World) : (Instr.index 91 (.agg #[a, b, c]) (.int .i64 0)).run Tryz.prog w = .ok (.agg #[a]) w := by
  simp [go_sem, Instr.index]
theorem run_index_l1 (a b c : Value) (w : World) : (Instr.index 91 (.agg #[a, b, c]) (.int .i64 1)).run Tryz.prog w = .ok (.agg #[b]) w := by
  simp [go_sem, Instr.index]
theorem run_index_l2 (a b c : Value) (w : World) : (Instr.index 91 (.agg #[a, b, c]) (.int .i64 2)).run Tryz.prog w = .ok (.agg #[c]) w := by
  simp [go_sem, Instr.index]
end

section
open Go.RowKit Go.Lib

/-- The tables of the three looks, under way. -/
structure TE (W2 : World) (o t u : List Rw) (d1 d3 d5 : Bool) (c1 c3 c5 : Value) (w : World) : Prop where
  bl : Below W2.heap.size W2 w
  t1 : d1 = true → ∃ b, c1 = .map (some b) ∧ W2.heap.size ≤ b ∧ Tab w w b (getR o) (o.map (·.1))
  t3 : d3 = true → ∃ b, c3 = .map (some b) ∧ W2.heap.size ≤ b ∧ Tab w w b (getR t) (t.map (·.1))
  t5 : d5 = true → ∃ b, c5 = .map (some b) ∧ W2.heap.size ≤ b ∧ Tab w w b (getR u) (u.map (·.1))
section
variable {W2 w w' : World} {o t u : List Rw} {d1 d3 d5 : Bool} {c1 c3 c5 : Value}
theorem tab_keep {b : Nat} {f : ByteArray → Option (List Gd)} {N : List ByteArray} (h : Tab w w b f N) (hb : Below w.heap.size w w') : Tab w' w' b f N := (h.keep hb).up hb
theorem tab_nil {b : Nat} {S : List ByteArray} {f : ByteArray → Option (List Gd)} {W0 : World} (h : MapG w b []) : Tab W0 w b (outF S f 0) (outN S f 0) := ⟨List.Pairwise.nil, [], h, .refl _, fun s => trivial⟩
theorem TE.keep (h : TE W2 o t u d1 d3 d5 c1 c3 c5 w) (hb : Below w.heap.size w w') : TE W2 o t u d1 d3 d5 c1 c3 c5 w' :=
  ⟨bcall h.bl hb, fun e => by obtain ⟨b, h1, h2, h3⟩ := h.t1 e; exact ⟨b, h1, h2, tab_keep h3 hb⟩, fun e => by obtain ⟨b, h1, h2, h3⟩ := h.t3 e; exact ⟨b, h1, h2, tab_keep h3 hb⟩, fun e => by obtain ⟨b, h1, h2, h3⟩ := h.t5 e; exact ⟨b, h1, h2, tab_keep h3 hb⟩⟩
theorem TE.set1 (h : TE W2 o t u d1 d3 d5 c1 c3 c5 w) (hb : Below w.heap.size w w') {b : Nat} (h1 : W2.heap.size ≤ b) (h2 : Tab w w' b (getR o) (o.map (·.1))) : TE W2 o t u true d3 d5 (.map (some b)) c3 c5 w' :=
  ⟨(h.keep hb).bl, fun _ => ⟨b, rfl, h1, h2.up hb⟩, (h.keep hb).t3, (h.keep hb).t5⟩
theorem TE.set3 (h : TE W2 o t u d1 d3 d5 c1 c3 c5 w) (hb : Below w.heap.size w w') {b : Nat} (h1 : W2.heap.size ≤ b) (h2 : Tab w w' b (getR t) (t.map (·.1))) : TE W2 o t u d1 true d5 c1 (.map (some b)) c5 w' :=
  ⟨(h.keep hb).bl, (h.keep hb).t1, fun _ => ⟨b, rfl, h1, h2.up hb⟩, (h.keep hb).t5⟩
theorem TE.set5 (h : TE W2 o t u d1 d3 d5 c1 c3 c5 w) (hb : Below w.heap.size w w') {b : Nat} (h1 : W2.heap.size ≤ b) (h2 : Tab w w' b (getR u) (u.map (·.1))) : TE W2 o t u d1 d3 true c1 c3 (.map (some b)) w' :=
  ⟨(h.keep hb).bl, (h.keep hb).t1, (h.keep hb).t3, fun _ => ⟨b, rfl, h1, h2.up hb⟩⟩
end
/-- The whole of the region: the tables, and the copies in their own slots. -/
def TX (W2 : World) (o t u : List Rw) (d1 d3 d5 d6 d7 d8 : Bool) (c1 c3 c5 c6 c7 c8 : Value) (w : World) : Prop :=
  TE W2 o t u d1 d3 d5 c1 c3 c5 w ∧ (d6 = true → c6 = c1) ∧ (d7 = true → c7 = c3) ∧ (d8 = true → c8 = c5) ∧ (d6 = true → d1 = true) ∧ (d7 = true → d3 = true) ∧ (d8 = true → d5 = true)
section
variable {W2 w w' : World} {o t u : List Rw} {d1 d3 d5 d6 d7 d8 : Bool} {c1 c3 c5 c6 c7 c8 : Value}
theorem TX.set1 (h : TX W2 o t u d1 d3 d5 d6 d7 d8 c1 c3 c5 c6 c7 c8 w) (hun : d1 = false) {b : Nat} (h1 : W2.heap.size ≤ b) (hb : Below w.heap.size w w') (h2 : Tab w w' b (getR o) (o.map (·.1))) : TX W2 o t u true d3 d5 d6 d7 d8 (.map (some b)) c3 c5 c6 c7 c8 w' :=
  ⟨h.1.set1 hb h1 h2, fun e => (by have := h.2.2.2.2.1 e; rw [hun] at this; cases this), h.2.2.1, h.2.2.2.1, fun _ => rfl, h.2.2.2.2.2.1, h.2.2.2.2.2.2⟩
theorem TX.set3 (h : TX W2 o t u d1 d3 d5 d6 d7 d8 c1 c3 c5 c6 c7 c8 w) (hun : d3 = false) {b : Nat} (h1 : W2.heap.size ≤ b) (hb : Below w.heap.size w w') (h2 : Tab w w' b (getR t) (t.map (·.1))) : TX W2 o t u d1 true d5 d6 d7 d8 c1 (.map (some b)) c5 c6 c7 c8 w' :=
  ⟨h.1.set3 hb h1 h2, h.2.1, fun e => (by have := h.2.2.2.2.2.1 e; rw [hun] at this; cases this), h.2.2.2.1, h.2.2.2.2.1, fun _ => rfl, h.2.2.2.2.2.2⟩
theorem TX.set5 (h : TX W2 o t u d1 d3 d5 d6 d7 d8 c1 c3 c5 c6 c7 c8 w) (hun : d5 = false) {b : Nat} (h1 : W2.heap.size ≤ b) (hb : Below w.heap.size w w') (h2 : Tab w w' b (getR u) (u.map (·.1))) : TX W2 o t u d1 d3 true d6 d7 d8 c1 c3 (.map (some b)) c6 c7 c8 w' :=
  ⟨h.1.set5 hb h1 h2, h.2.1, h.2.2.1, fun e => (by have := h.2.2.2.2.2.2 e; rw [hun] at this; cases this), h.2.2.2.2.1, h.2.2.2.2.2.1, fun _ => rfl⟩
theorem TX.asg6 (h : TX W2 o t u d1 d3 d5 d6 d7 d8 c1 c3 c5 c6 c7 c8 w) (hd : d1 = true) {v : Value} (hv : v = c1) : TX W2 o t u d1 d3 d5 true d7 d8 c1 c3 c5 v c7 c8 w := ⟨h.1, fun _ => hv, h.2.2.1, h.2.2.2.1, fun _ => hd, h.2.2.2.2.2.1, h.2.2.2.2.2.2⟩
theorem TX.asg7 (h : TX W2 o t u d1 d3 d5 d6 d7 d8 c1 c3 c5 c6 c7 c8 w) (hd : d3 = true) {v : Value} (hv : v = c3) : TX W2 o t u d1 d3 d5 d6 true d8 c1 c3 c5 c6 v c8 w := ⟨h.1, h.2.1, fun _ => hv, h.2.2.2.1, h.2.2.2.2.1, fun _ => hd, h.2.2.2.2.2.2⟩
theorem TX.asg8 (h : TX W2 o t u d1 d3 d5 d6 d7 d8 c1 c3 c5 c6 c7 c8 w) (hd : d5 = true) {v : Value} (hv : v = c5) : TX W2 o t u d1 d3 d5 d6 d7 true c1 c3 c5 c6 c7 v w := ⟨h.1, h.2.1, h.2.2.1, fun _ => hv, h.2.2.2.2.1, h.2.2.2.2.2.1, fun _ => hd⟩
end
set_option maxRecDepth 100000 in
set_option maxHeartbeats 16000000 in
theorem conform_Merge (vo vt vu : Value) (o t u : List Rw) (W : World) (E : EnvF W) (ho : SlL W vo o) (ht : SlL W vt t) (hu : SlL W vu u) (wo : ∀ r ∈ o, ∀ g ∈ r.2, GdW g) (wt : ∀ r ∈ t, ∀ g ∈ r.2, GdW g) (wu : ∀ r ∈ u, ∀ g ∈ r.2, GdW g) :
    Calls Tryz.prog 19 #[.agg #[vo], .agg #[vt], .agg #[vu]] W fun e w' => MergeIs W w' (err3 o t u) (outP o t u) (confs o t u) e ∧ Below W.heap.size W w' := by
  have HS := Lib.hid (And.intro ho (And.intro ht hu))
  have HWD := Lib.hid (And.intro E (And.intro wo (And.intro wt wu)))
  obtain ⟨a1, c1, rfl, _⟩ := ho
  obtain ⟨a2, c2, rfl, _⟩ := ht
  obtain ⟨a3, c3, rfl, _⟩ := hu
  obtain ⟨n1, hn1⟩ : ∃ n, o.length = n := ⟨_, rfl⟩
  obtain ⟨n2, hn2⟩ : ∃ n, t.length = n := ⟨_, rfl⟩
  obtain ⟨n3, hn3⟩ : ∃ n, u.length = n := ⟨_, rfl⟩
  rw [hn1, hn2, hn3] at HS ⊢
  clear hn1 hn2 hn3 E wo wt wu
  go_enter Tryz.func19, Tryz.ntmps19
  go_upto_region 1 with fail
  refine name_world ?_
  intro W1 hW1
  have HX := box4 W 57 #[.slice a1 n1 c1] #[.slice a2 n2 c2] #[.slice a3 n3 c3] #[.slice none 0 0]
  rw [← hW1] at HX
  repeat rw [szA]
  obtain ⟨p3, hp3⟩ : ∃ p, W.heap.size = p := ⟨_, rfl⟩
  obtain ⟨p4, hp4⟩ : ∃ p, p3 + 1 = p := ⟨_, rfl⟩
  obtain ⟨p5, hp5⟩ : ∃ p, p4 + 1 = p := ⟨_, rfl⟩
  obtain ⟨p6, hp6⟩ : ∃ p, p5 + 1 = p := ⟨_, rfl⟩
  have HPP := Lib.hid (And.intro hp3 (And.intro hp4 (And.intro hp5 hp6)))
  have HW := Lib.hid HX.2.2.2.2
  have X3 := Lib.hid HX.1
  have X4 := Lib.hid HX.2.1
  have X5 := Lib.hid HX.2.2.1
  have X6 := Lib.hid HX.2.2.2.1
  rw [hp3] at X3
  rw [hp3, hp4] at X4
  rw [hp3, hp4, hp5] at X5
  rw [hp3, hp4, hp5, hp6] at X6
  try rw [hp3]
  try rw [hp4]
  try rw [hp5]
  try rw [hp6]
  clear hW1 hp3 hp4 hp5 hp6 HX
  have q3 := X3.out.all.1 0
  have q4 := X4.out.all.1 0
  have q5 := X5.out.all.1 0
  simp only [List.getElem?_toArray, List.getElem?_cons_zero] at q3 q4 q5
  go_wp2_with fail
  clear q3 q4 q5
  go_loopw [26] (fun i wr => ∃ k : Nat, k ≤ 3 ∧ i = .int .i64 (k : Int) ∧ Hid (Below W1.heap.size W1 wr ∧ ∀ j, j < k → lookErr ([o, t, u].getD j []) = 0)) (fun i _ => 3 - (RowKit.intOf i).toNat)
  case atStart => exact ⟨0, Nat.zero_le _, rfl, Lib.hid ⟨Below.refl _ _, fun j hj => absurd hj (Nat.not_lt_zero _)⟩⟩
  case round =>
    obtain ⟨k, hk, rfl, HI⟩ := hrel
    rcases (by omega : k = 0 ∨ k = 1 ∨ k = 2 ∨ k = 3) with rfl | rfl | rfl | rfl
    · rw [show ((0 : Nat) : Int) = 0 from rfl]
      have hix := run_index_l0 (.slice a1 n1 c1) (.slice a2 n2 c2) (.slice a3 n3 c3)
      go_upto_region 4 with fail
      clear hix
      refine name_world ?_
      intro W3 hW3
      have X10 : Hid (Bx W3 wr.heap.size 57 #[(.slice a1 n1 c1)]) := Lib.hid (by rw [hW3]; exact Bx.new _ _ _)
      have B3 : Hid (Below W1.heap.size W1 W3) := Lib.hid (by rw [hW3]; exact bnew HI.out.1)
      obtain ⟨p10, hp10⟩ : ∃ p, wr.heap.size = p := ⟨_, rfl⟩
      rw [hp10] at X10 ⊢
      have r0 := X10.out.all.1 0
      simp only [List.getElem?_toArray, List.getElem?_cons_zero] at r0
      clear hW3 hp10
      go_wp2_with fail
      refine (conform_CheckLook _ o _ (HS.out.1.keep (HW.out.trans (B3.out.mono HW.out.size)))).mono ?_
      rintro e w5 ⟨rfl, hb5⟩
      have B5 : Hid (Below W1.heap.size W1 w5) := Lib.hid (bcall B3.out hb5)
      clear hb5 r0
      obtain ⟨er, her⟩ : ∃ x, lookErr o = x := ⟨_, rfl⟩
      have HER := Lib.hid her
      rw [her]
      clear her
      by_cases h0 : er = 0
      · subst h0
        go_wp2_with fail
        go_roundw
        case rel => exact ⟨0 + 1, by omega, by go_num, Lib.hid ⟨B5.out, fun j hj => by
          rcases (by omega : j = 0) with rfl
          · exact HER.out⟩⟩
        case measure => simp [RowKit.intOf]
      · have hne : (er == 0) = false := beq_eq_false_iff_ne.2 h0
        have x6 := (X6.out.keep B5.out)
        obtain ⟨q6, f6, _⟩ := x6.all
        have q60 := q6 0
        have f60 := f6 0
        simp only [List.getElem?_toArray, List.getElem?_cons_zero] at q60
        have X7 : Hid (Bx (w5.setCell ⟨p6, 0, none⟩ (.slice none 0 0)) p6 57 #[.slice none 0 0]) := Lib.hid (by have := x6.set 0 (.slice none 0 0); simpa using this)
        have HE : Hid (err3 o t u = er ∧ Below W.heap.size W (w5.setCell ⟨p6, 0, none⟩ (.slice none 0 0))) := Lib.hid ⟨by
          unfold err3
          rw [firstNZ, if_neg (by rw [HER.out]; exact h0)]
          exact HER.out, bput (by have := HPP.out; omega) (HW.out.trans (B5.out.mono HW.out.size))⟩
        have Hne := Lib.hid h0
        clear x6 q6 f6 h0
        go_wp2_with fail
        refine bodyPost_ret (v := .tuple #[.agg #[.slice none 0 0], .slice none 0 0, .int .i64 er]) (results_cell2 (p := 6) (q := 7) (r := 8) (ty := 57) (by kernel_rfl) _ _ p6 57 #[.slice none 0 0] (0, 0) _ _ _ rfl rfl rfl X7.out Tryz.underlying57 rfl (by kernel_rfl)) rfl ⟨.inl ?_, HE.out.2⟩
        have hm : mErr (err3 o t u) (outP o t u) = er := by unfold mErr; rw [HE.out.1, if_pos Hne.out]
        rw [hm]
        exact ⟨Hne.out, rfl⟩
    · rw [show ((1 : Nat) : Int) = 1 from rfl]
      have hix := run_index_l1 (.slice a1 n1 c1) (.slice a2 n2 c2) (.slice a3 n3 c3)
      go_upto_region 4 with fail
      clear hix
      refine name_world ?_
      intro W3 hW3
      have X10 : Hid (Bx W3 wr.heap.size 57 #[(.slice a2 n2 c2)]) := Lib.hid (by rw [hW3]; exact Bx.new _ _ _)
      have B3 : Hid (Below W1.heap.size W1 W3) := Lib.hid (by rw [hW3]; exact bnew HI.out.1)
      obtain ⟨p10, hp10⟩ : ∃ p, wr.heap.size = p := ⟨_, rfl⟩
      rw [hp10] at X10 ⊢
      have r0 := X10.out.all.1 0
      simp only [List.getElem?_toArray, List.getElem?_cons_zero] at r0
      clear hW3 hp10
      go_wp2_with fail
      refine (conform_CheckLook _ t _ (HS.out.2.1.keep (HW.out.trans (B3.out.mono HW.out.size)))).mono ?_
      rintro e w5 ⟨rfl, hb5⟩
      have B5 : Hid (Below W1.heap.size W1 w5) := Lib.hid (bcall B3.out hb5)
      clear hb5 r0
      obtain ⟨er, her⟩ : ∃ x, lookErr t = x := ⟨_, rfl⟩
      have HER := Lib.hid her
      rw [her]
      clear her
      by_cases h0 : er = 0
      · subst h0
        go_wp2_with fail
        go_roundw
        case rel => exact ⟨1 + 1, by omega, by go_num, Lib.hid ⟨B5.out, fun j hj => by
          rcases (by omega : j = 0 ∨ j = 1) with rfl | rfl
          · exact HI.out.2 0 (by omega)
          · exact HER.out⟩⟩
        case measure => simp [RowKit.intOf]
      · have hne : (er == 0) = false := beq_eq_false_iff_ne.2 h0
        have x6 := (X6.out.keep B5.out)
        obtain ⟨q6, f6, _⟩ := x6.all
        have q60 := q6 0
        have f60 := f6 0
        simp only [List.getElem?_toArray, List.getElem?_cons_zero] at q60
        have X7 : Hid (Bx (w5.setCell ⟨p6, 0, none⟩ (.slice none 0 0)) p6 57 #[.slice none 0 0]) := Lib.hid (by have := x6.set 0 (.slice none 0 0); simpa using this)
        have HE : Hid (err3 o t u = er ∧ Below W.heap.size W (w5.setCell ⟨p6, 0, none⟩ (.slice none 0 0))) := Lib.hid ⟨by
          unfold err3
          rw [firstNZ, if_pos (show lookErr o = 0 from HI.out.2 0 (by omega))]
          rw [firstNZ, if_neg (by rw [HER.out]; exact h0)]
          exact HER.out, bput (by have := HPP.out; omega) (HW.out.trans (B5.out.mono HW.out.size))⟩
        have Hne := Lib.hid h0
        clear x6 q6 f6 h0
        go_wp2_with fail
        refine bodyPost_ret (v := .tuple #[.agg #[.slice none 0 0], .slice none 0 0, .int .i64 er]) (results_cell2 (p := 6) (q := 7) (r := 8) (ty := 57) (by kernel_rfl) _ _ p6 57 #[.slice none 0 0] (0, 0) _ _ _ rfl rfl rfl X7.out Tryz.underlying57 rfl (by kernel_rfl)) rfl ⟨.inl ?_, HE.out.2⟩
        have hm : mErr (err3 o t u) (outP o t u) = er := by unfold mErr; rw [HE.out.1, if_pos Hne.out]
        rw [hm]
        exact ⟨Hne.out, rfl⟩
    · rw [show ((2 : Nat) : Int) = 2 from rfl]
      have hix := run_index_l2 (.slice a1 n1 c1) (.slice a2 n2 c2) (.slice a3 n3 c3)
      go_upto_region 4 with fail
      clear hix
      refine name_world ?_
      intro W3 hW3
      have X10 : Hid (Bx W3 wr.heap.size 57 #[(.slice a3 n3 c3)]) := Lib.hid (by rw [hW3]; exact Bx.new _ _ _)
      have B3 : Hid (Below W1.heap.size W1 W3) := Lib.hid (by rw [hW3]; exact bnew HI.out.1)
      obtain ⟨p10, hp10⟩ : ∃ p, wr.heap.size = p := ⟨_, rfl⟩
      rw [hp10] at X10 ⊢
      have r0 := X10.out.all.1 0
      simp only [List.getElem?_toArray, List.getElem?_cons_zero] at r0
      clear hW3 hp10
      go_wp2_with fail
      refine (conform_CheckLook _ u _ (HS.out.2.2.keep (HW.out.trans (B3.out.mono HW.out.size)))).mono ?_
      rintro e w5 ⟨rfl, hb5⟩
      have B5 : Hid (Below W1.heap.size W1 w5) := Lib.hid (bcall B3.out hb5)
      clear hb5 r0
      obtain ⟨er, her⟩ : ∃ x, lookErr u = x := ⟨_, rfl⟩
      have HER := Lib.hid her
      rw [her]
      clear her
      by_cases h0 : er = 0
      · subst h0
        go_wp2_with fail
        go_roundw
        case rel => exact ⟨2 + 1, by omega, by go_num, Lib.hid ⟨B5.out, fun j hj => by
          rcases (by omega : j = 0 ∨ j = 1 ∨ j = 2) with rfl | rfl | rfl
          · exact HI.out.2 0 (by omega)
          · exact HI.out.2 1 (by omega)
          · exact HER.out⟩⟩
        case measure => simp [RowKit.intOf]
      · have hne : (er == 0) = false := beq_eq_false_iff_ne.2 h0
        have x6 := (X6.out.keep B5.out)
        obtain ⟨q6, f6, _⟩ := x6.all
        have q60 := q6 0
        have f60 := f6 0
        simp only [List.getElem?_toArray, List.getElem?_cons_zero] at q60
        have X7 : Hid (Bx (w5.setCell ⟨p6, 0, none⟩ (.slice none 0 0)) p6 57 #[.slice none 0 0]) := Lib.hid (by have := x6.set 0 (.slice none 0 0); simpa using this)
        have HE : Hid (err3 o t u = er ∧ Below W.heap.size W (w5.setCell ⟨p6, 0, none⟩ (.slice none 0 0))) := Lib.hid ⟨by
          unfold err3
          rw [firstNZ, if_pos (show lookErr o = 0 from HI.out.2 0 (by omega))]
          rw [firstNZ, if_pos (show lookErr t = 0 from HI.out.2 1 (by omega))]
          rw [firstNZ, if_neg (by rw [HER.out]; exact h0)]
          exact HER.out, bput (by have := HPP.out; omega) (HW.out.trans (B5.out.mono HW.out.size))⟩
        have Hne := Lib.hid h0
        clear x6 q6 f6 h0
        go_wp2_with fail
        refine bodyPost_ret (v := .tuple #[.agg #[.slice none 0 0], .slice none 0 0, .int .i64 er]) (results_cell2 (p := 6) (q := 7) (r := 8) (ty := 57) (by kernel_rfl) _ _ p6 57 #[.slice none 0 0] (0, 0) _ _ _ rfl rfl rfl X7.out Tryz.underlying57 rfl (by kernel_rfl)) rfl ⟨.inl ?_, HE.out.2⟩
        have hm : mErr (err3 o t u) (outP o t u) = er := by unfold mErr; rw [HE.out.1, if_pos Hne.out]
        rw [hm]
        exact ⟨Hne.out, rfl⟩
    · rw [show ((3 : Nat) : Int) = 3 from rfl]
      have HR : Hid (LookR o ∧ LookR t ∧ LookR u) := Lib.hid ⟨⟨lookErr_ok (HI.out.2 0 (by omega)), HWD.out.2.1⟩, ⟨lookErr_ok (HI.out.2 1 (by omega)), HWD.out.2.2.1⟩, ⟨lookErr_ok (HI.out.2 2 (by omega)), HWD.out.2.2.2⟩⟩
      have HZ : Hid (err3 o t u = 0) := Lib.hid (by
        unfold err3
        rw [firstNZ, if_pos (show lookErr o = 0 from HI.out.2 0 (by omega)), firstNZ, if_pos (show lookErr t = 0 from HI.out.2 1 (by omega)), firstNZ, if_pos (show lookErr u = 0 from HI.out.2 2 (by omega))]
        rfl)
      have HW2 : Hid (Below W.heap.size W wr) := Lib.hid (HW.out.trans (HI.out.1.mono HW.out.size))
      have X62 := Lib.hid (X6.out.keep HI.out.1)
      have hcx : ∀ {p : Nat} {v : Value} (x : Bx W1 p 57 #[v]) (w : World), Below wr.heap.size wr w → w.cell? ⟨p, 0, none⟩ = some v := fun x w hw => ((x.keep HI.out.1).keep hw).all.1 0
      have HB0 := Lib.hid (hcx X3.out)
      have HB1 := Lib.hid (hcx X4.out)
      have HB2 := Lib.hid (hcx X5.out)
      clear hcx
      go_upto_region 8 with fail
      refine wp_region_inv 9 (fun qz u' => if qz = 1 then True else if qz = 3 then True else if qz = 5 then True else if qz = 6 then True else if qz = 7 then True else if qz = 8 then True else u' = [(.agg #[(.slice a1 n1 c1)]), undef, (.agg #[(.slice a2 n2 c2)]), undef, (.agg #[(.slice a3 n3 c3)]), undef, undef, undef, undef].getD qz undef) (fun d vs w' => TX wr o t u (d 1) (d 3) (d 5) (d 6) (d 7) (d 8) (vs 1) (vs 3) (vs 5) (vs 6) (vs 7) (vs 8) w') (by kernel_rfl) (by kernel_rfl) ?_ ?_ ?_
      · intro vs
        exact ⟨⟨(Below.refl _ _).drew, fun e => (by cases e), fun e => (by cases e), fun e => (by cases e)⟩, fun e => (by cases e), fun e => (by cases e), fun e => (by cases e), fun e => (by cases e), fun e => (by cases e), fun e => (by cases e)⟩
      · intro iq oq hi ho
        rcases (by omega : iq = 0 ∨ iq = 1 ∨ iq = 2 ∨ iq = 3 ∨ iq = 4 ∨ iq = 5 ∨ iq = 6 ∨ iq = 7 ∨ iq = 8) with rfl | rfl | rfl | rfl | rfl | rfl | rfl | rfl | rfl
        all_goals simp only [List.getElem?_cons_zero, List.getElem?_cons_succ, Option.some.injEq] at ho
        all_goals subst ho
        all_goals intro d a0 wx hI hag hdep hun
        · have hq : wx.cell? ⟨p3, 0, none⟩ = some (.slice a1 n1 c1) := HB0.out wx hI.1.bl
          have e0 := slot_eq (hag 3 rfl)
          exact inv_val (v := (.agg #[(.slice a1 n1 c1)])) (by simp [go_sem, e0, hq]) (fun h => (by cases h)) rfl hI
        · have e0 := slot_eq (hdep ⟨0, .data⟩ (by simp) rfl).1
          refine inv_call (f := 41) (args := #[(.agg #[(.slice a1 n1 c1)])]) (run_go_call Tryz.func41 (by kernel_rfl) (by kernel_rfl) _ _ _ _ _ _ _ _ _ _ (by simp [Act.eval, e0])) (fun h => (by cases h)) ?_
          refine (conform_tableOf _ o wx (HS.out.1.keep (HW2.out.trans (hI.1.bl.mono HW2.out.size))) HR.out.1.ok.srt (by have := HR.out.1.ok.len; omega) HR.out.1.size).mono ?_
          rintro e w' ⟨b, rfl, h1, h2, hb⟩
          exact ⟨.map (some b), rfl, trivial, TX.set1 hI hun (by have := hI.1.bl.size; omega) hb h2⟩
        · have hq : wx.cell? ⟨p4, 0, none⟩ = some (.slice a2 n2 c2) := HB1.out wx hI.1.bl
          have e0 := slot_eq (hag 4 rfl)
          exact inv_val (v := (.agg #[(.slice a2 n2 c2)])) (by simp [go_sem, e0, hq]) (fun h => (by cases h)) rfl hI
        · have e0 := slot_eq (hdep ⟨2, .data⟩ (by simp) rfl).1
          refine inv_call (f := 41) (args := #[(.agg #[(.slice a2 n2 c2)])]) (run_go_call Tryz.func41 (by kernel_rfl) (by kernel_rfl) _ _ _ _ _ _ _ _ _ _ (by simp [Act.eval, e0])) (fun h => (by cases h)) ?_
          refine (conform_tableOf _ t wx (HS.out.2.1.keep (HW2.out.trans (hI.1.bl.mono HW2.out.size))) HR.out.2.1.ok.srt (by have := HR.out.2.1.ok.len; omega) HR.out.2.1.size).mono ?_
          rintro e w' ⟨b, rfl, h1, h2, hb⟩
          exact ⟨.map (some b), rfl, trivial, TX.set3 hI hun (by have := hI.1.bl.size; omega) hb h2⟩
        · have hq : wx.cell? ⟨p5, 0, none⟩ = some (.slice a3 n3 c3) := HB2.out wx hI.1.bl
          have e0 := slot_eq (hag 5 rfl)
          exact inv_val (v := (.agg #[(.slice a3 n3 c3)])) (by simp [go_sem, e0, hq]) (fun h => (by cases h)) rfl hI
        · have e0 := slot_eq (hdep ⟨4, .data⟩ (by simp) rfl).1
          refine inv_call (f := 41) (args := #[(.agg #[(.slice a3 n3 c3)])]) (run_go_call Tryz.func41 (by kernel_rfl) (by kernel_rfl) _ _ _ _ _ _ _ _ _ _ (by simp [Act.eval, e0])) (fun h => (by cases h)) ?_
          refine (conform_tableOf _ u wx (HS.out.2.2.keep (HW2.out.trans (hI.1.bl.mono HW2.out.size))) HR.out.2.2.ok.srt (by have := HR.out.2.2.ok.len; omega) HR.out.2.2.size).mono ?_
          rintro e w' ⟨b, rfl, h1, h2, hb⟩
          exact ⟨.map (some b), rfl, trivial, TX.set5 hI hun (by have := hI.1.bl.size; omega) hb h2⟩
        · have hd := (hdep ⟨1, .data⟩ (by simp) rfl).2
          obtain ⟨b, hb, _⟩ := hI.1.t1 hd
          have e0 := slot_eq hb
          exact inv_val (v := .map (some b)) (by simp [go_sem, e0]) (fun h => (by cases h)) trivial (TX.asg6 hI hd hb.symm)
        · have hd := (hdep ⟨3, .data⟩ (by simp) rfl).2
          obtain ⟨b, hb, _⟩ := hI.1.t3 hd
          have e0 := slot_eq hb
          exact inv_val (v := .map (some b)) (by simp [go_sem, e0]) (fun h => (by cases h)) trivial (TX.asg7 hI hd hb.symm)
        · have hd := (hdep ⟨5, .data⟩ (by simp) rfl).2
          obtain ⟨b, hb, _⟩ := hI.1.t5 hd
          have e0 := slot_eq hb
          exact inv_val (v := .map (some b)) (by simp [go_sem, e0]) (fun h => (by cases h)) trivial (TX.asg8 hI hd hb.symm)
      · intro d vs w6 hd hI hA
        have k0 : vs 0 = (.agg #[(.slice a1 n1 c1)]) := hA 0 (by omega)
        have k2 : vs 2 = (.agg #[(.slice a2 n2 c2)]) := hA 2 (by omega)
        have k4 : vs 4 = (.agg #[(.slice a3 n3 c3)]) := hA 4 (by omega)
        simp only [putAll, dstAt, List.getElem?_toArray, List.getElem?_cons_zero, List.getElem?_cons_succ, Option.bind_some, Option.bind_none, Act.put, List.setIfInBounds_toArray, List.set_cons_zero, List.set_cons_succ, k0, k2, k4]
        have hI6 : TX wr o t u true true true true true true (vs 1) (vs 3) (vs 5) (vs 6) (vs 7) (vs 8) w6 := by
          have h := hI
          simp only [hd 1 (by omega), hd 3 (by omega), hd 5 (by omega), hd 6 (by omega), hd 7 (by omega), hd 8 (by omega)] at h
          exact h
        generalize vs 1 = v1x at *
        generalize vs 3 = v3x at *
        generalize vs 5 = v5x at *
        generalize vs 6 = v6x at *
        generalize vs 7 = v7x at *
        generalize vs 8 = v8x at *
        obtain ⟨b1, e1, hb1, T1⟩ := hI6.1.t1 rfl
        obtain ⟨b2, e2, hb2, T2⟩ := hI6.1.t3 rfl
        obtain ⟨b3, e3, hb3, T3⟩ := hI6.1.t5 rfl
        have e6 : v6x = .map (some b1) := (hI6.2.1 rfl).trans e1
        have e7 : v7x = .map (some b2) := (hI6.2.2.1 rfl).trans e2
        have e8 : v8x = .map (some b3) := (hI6.2.2.2.1 rfl).trans e3
        have HW6 : Hid (Below W.heap.size W w6) := Lib.hid (HW2.out.trans (hI6.1.bl.mono HW2.out.size))
        have HT6 := Lib.hid (And.intro T1 (And.intro T2 T3))
        have HBL6 : Hid (b1 < w6.heap.size ∧ b2 < w6.heap.size ∧ b3 < w6.heap.size) := Lib.hid ⟨T1.lt, T2.lt, T3.lt⟩
        have X66 := Lib.hid (X62.out.keep hI6.1.bl)
        subst e1 e2 e3 e6 e7 e8
        clear hI hA hd k0 k2 k4 hI6 hb1 hb2 hb3 T1 T2 T3
        have hmk := run_makeMap_g
        go_upto_region 10 with fail
        clear hmk
        refine name_world ?_
        intro W7 hW7
        have HM7b : Hid (Below w6.heap.size w6 W7) := Lib.hid (by rw [hW7]; exact bnew (Below.refl _ _))
        have HM7 : Hid (MapG W7 w6.heap.size [] ∧ Below w6.heap.size w6 W7 ∧ W7.heap.size = w6.heap.size + 1) := Lib.hid (by rw [hW7]; exact ⟨MapG.new _, bnew (Below.refl _ _), Array.size_push _⟩)
        obtain ⟨b, hb⟩ : ∃ b, w6.heap.size = b := ⟨_, rfl⟩
        have HB := Lib.hid hb
        rw [hb] at HM7
        try rw [hb]
        clear hW7 hb
        obtain ⟨_, A1, mA1, pA1, _⟩ := HT6.out.1
        obtain ⟨_, A2, mA2, pA2, _⟩ := HT6.out.2.1
        obtain ⟨_, A3, mA3, pA3, _⟩ := HT6.out.2.2
        have HAA := Lib.hid (And.intro mA1 (And.intro mA2 (And.intro mA3 (And.intro pA1 (And.intro pA2 pA3)))))
        clear mA1 mA2 mA3 pA1 pA2 pA3
        go_wp2_with fail
        refine name_callL ?_
        intro W8 hW8
        have X46 : Hid (Bx W8 W7.heap.size 93 #[.map (some b2), .map (some b3)]) := Lib.hid (by rw [hW8]; exact Bx.new _ _ _)
        have HB78 : Hid (Below W7.heap.size W7 W8) := Lib.hid (by rw [hW8]; exact bnew (Below.refl _ _))
        have HB8 : Hid (Below w6.heap.size w6 W8) := Lib.hid (bcall HM7b.out HB78.out)
        obtain ⟨g46, hg46⟩ : ∃ g, W7.heap.size = g := ⟨_, rfl⟩
        have HG46 := Lib.hid hg46
        rw [hg46] at X46 ⊢
        clear hW8 hg46
        have hln : ∀ (A : List (ByteArray × Value)) (N : List ByteArray), (A.map (·.1)).Perm N → N.length ≤ 500 → A.length ≤ 1000 := fun A N h1 h2 => by
          have := h1.length_eq
          rw [List.length_map] at this
          omega
        refine (conform_shots (b1, A1) [(b2, A2), (b3, A3)] _ W8 (fun m hm => ?_) (.inr ⟨g46, 2, rfl, fun j m hj => ?_⟩) (by simp) (fun m hm => ?_)).mono ?_
        · rcases List.mem_cons.1 hm with rfl | hm
          · exact HAA.out.1.keep HB8.out
          · rcases List.mem_cons.1 hm with rfl | hm
            · exact HAA.out.2.1.keep HB8.out
            · rw [List.mem_singleton.1 hm]; exact HAA.out.2.2.1.keep HB8.out
        · match j, hj with
          | 0, hj =>
            rw [← Option.some.inj hj]; exact X46.out.all.1 0
          | 1, hj =>
            rw [← Option.some.inj hj]; exact X46.out.all.1 1
        · have h1 := HR.out.1.ok.len
          have h2 := HR.out.2.1.ok.len
          have h3 := HR.out.2.2.ok.len
          rcases List.mem_cons.1 hm with rfl | hm
          · exact hln _ _ HAA.out.2.2.2.1 (by rw [List.length_map]; exact h1)
          · rcases List.mem_cons.1 hm with rfl | hm
            · exact hln _ _ HAA.out.2.2.2.2.1 (by rw [List.length_map]; exact h2)
            · rw [List.mem_singleton.1 hm]; exact hln _ _ HAA.out.2.2.2.2.2 (by rw [List.length_map]; exact h3)
        rintro e w9 ⟨v47, rfl, ho9, hb9⟩
        obtain ⟨S, hS⟩ : ∃ S, namesM o t u = S := ⟨_, rfl⟩
        have HSS := Lib.hid hS
        have eS : allS (((b1, A1) :: [(b2, A2), (b3, A3)]).flatMap nmA) = S := by
          rw [← hS]
          refine allS_mem fun s => ?_
          simp only [List.flatMap_cons, List.flatMap_nil, List.append_nil, List.mem_append, nmA]
          rw [HAA.out.2.2.2.1.mem_iff, HAA.out.2.2.2.2.1.mem_iff, HAA.out.2.2.2.2.2.mem_iff, or_assoc]
        rw [eS] at ho9
        obtain ⟨n, hn⟩ : ∃ n, S.length = n := ⟨_, rfl⟩
        have HSn : Hid (S.length = n ∧ S.length ≤ 1500) := Lib.hid ⟨hn, by rw [← hS]; exact names_len HR.out.1 HR.out.2.1 HR.out.2.2⟩
        obtain ⟨a47, c47, hv47, hc47⟩ : ∃ a c, v47 = .slice a n c ∧ (0 < n → ∃ g, a = some ⟨g, 0, none⟩ ∧ W8.heap.size ≤ g ∧ g < w9.heap.size ∧ ∀ k, k < n → w9.cell? ⟨g, k, none⟩ = some (.string (S.getD k default))) := by
          rcases OwnS.form ho9 with ⟨h0, h1⟩ | ⟨g, c, h1, h2, h3, _, h4⟩
          · refine ⟨none, 0, by rw [h1, ← hn, h0]; rfl, fun h => ?_⟩
            rw [← hn, h0] at h; simp at h
          · rw [hn] at h1 h4
            exact ⟨_, c, h1, fun _ => ⟨g, rfl, h2, h3, h4⟩⟩
        subst hv47
        have HC := Lib.hid hc47
        have HB9 : Hid (Below w6.heap.size w6 w9) := Lib.hid (bcall HB8.out hb9)
        have HM9 : Hid (MapG w9 b []) := Lib.hid ((HM7.out.1.keep HB78.out).keep hb9)
        have HBL : Hid (w6.heap.size = b ∧ b1 < b ∧ b2 < b ∧ b3 < b ∧ b < W8.heap.size ∧ W8.heap.size ≤ w9.heap.size) := Lib.hid ⟨HB.out, by rw [← HB.out]; exact HBL6.out.1, by rw [← HB.out]; exact HBL6.out.2.1, by rw [← HB.out]; exact HBL6.out.2.2, by have h1 := HM7.out.2.2; have h2 := HB78.out.size; omega, hb9.size⟩
        have HT9 := Lib.hid (And.intro (HT6.out.1.keep HB9.out) (And.intro (HT6.out.2.1.keep HB9.out) (HT6.out.2.2.keep HB9.out)))
        have HE6 : Hid (EnvF w6) := Lib.hid (HWD.out.1.below HW6.out)
        have X69 := Lib.hid (X66.out.keep HB9.out)
        clear ho9 hb9 hc47 hn hS eS hln
        have hn15 : n ≤ 1500 := by have := HSn.out; omega
        go_wp2_with fail
        go_loopw [16, 49] (fun v i wr => ∃ (k : Nat) (ks : List ByteArray), k ≤ n ∧ i = .int .i64 (k : Int) ∧ OwnS w9.heap.size wr v ks ∧ Hid (Kx b w9 wr ∧ ks = (S.take k).filter (fun x => confM (getR o x) (getR t x) (getR u x)) ∧ Tab w6 wr b (outF S (fun x => pickP (getR o x) (getR t x) (getR u x)) k) (outN S (fun x => pickP (getR o x) (getR t x) (getR u x)) k))) (fun _ i _ => n - (RowKit.intOf i).toNat)
        case atStart => exact ⟨0, [], Nat.zero_le _, rfl, World.ownsRow_nil _ _ _ _, Lib.hid ⟨Kx.refl _ _, rfl, tab_nil HM9.out⟩⟩
        case round =>
          obtain ⟨k, ks, hk, rfl, own, HI⟩ := hrel
          by_cases hlt : k < n
          · obtain ⟨g47, rfl, hlo, hhi, hcel⟩ := HC.out (by omega)
            obtain ⟨s, hs⟩ : ∃ s, S[k]? = some s := ⟨_, List.getElem?_eq_getElem (by rw [HSn.out.1]; exact hlt)⟩
            have hx : wr.cell? ⟨g47, k, none⟩ = some (.string s) := by
              have h1 : w9.cell? ⟨g47, k, none⟩ = some (.string s) := by
                have h2 := hcel k hlt
                rw [List.getD_eq_getElem?_getD, hs] at h2
                exact h2
              exact Eq.trans (World.cell?_of_block (a := ⟨g47, k, none⟩) (HI.out.1.block g47 hhi (by have := HBL.out; omega))) h1
            have HSK : Hid (S[k]? = some s ∧ S.Pairwise ltS ∧ s.size ≤ maxLen) := Lib.hid ⟨hs, by rw [← HSS.out]; exact names_srt _ _ _, names_size HR.out.1 HR.out.2.1 HR.out.2.2 s (by rw [HSS.out]; exact List.mem_of_getElem? hs)⟩
            have hd1 : decide ((k : Int) < (n : Int)) = true := decide_eq_true (by omega)
            have hkn : (k : Int) < (n : Int) := by omega
            have HBwr : Hid (Below w6.heap.size w6 wr) := Lib.hid (below_kx HB9.out HI.out.1 (by have := HBL.out; omega) (by have := HBL.out; omega))
            have HKwr := Lib.hid HI.out.1
            have ownwr := own
            clear hs hcel own hlo hhi
            go_wp2_with fail
            clear hx hd1 hkn
            refine (conform_same w6 _ _ _ (getR o) (getR t) _ _ s HE6.out HBwr.out (HT9.out.1.lift (HKwr.out.block _ (by have := HBL.out; omega) (by have := HBL.out; omega))) (HT9.out.2.1.lift (HKwr.out.block _ (by have := HBL.out; omega) (by have := HBL.out; omega))) HR.out.1.right HR.out.2.1.right HSK.out.2.2).mono ?_
            rintro e wa ⟨rfl, hb⟩
            have HBwa := Lib.hid (bcall HBwr.out hb)
            have HKwa := Lib.hid (HKwr.out.call hb)
            have ownwa := ownwr.keep hb
            have HBbwa : Hid (wa.heap[b]? = wr.heap[b]?) := Lib.hid (hb.block b (by have := HBL.out; have := HKwr.out.size; omega))
            clear hb ownwr
            obtain ⟨q1, hq1⟩ : ∃ z, simO (getR o s) (getR t s) = z := ⟨_, rfl⟩
            have HQ1 := Lib.hid hq1
            rw [hq1]
            clear hq1
            cases q1
            · go_wp2_with fail
              refine (conform_same w6 _ _ _ (getR o) (getR u) _ _ s HE6.out HBwa.out (HT9.out.1.lift (HKwa.out.block _ (by have := HBL.out; omega) (by have := HBL.out; omega))) (HT9.out.2.2.lift (HKwa.out.block _ (by have := HBL.out; omega) (by have := HBL.out; omega))) HR.out.1.right HR.out.2.2.right HSK.out.2.2).mono ?_
              rintro e wc ⟨rfl, hb⟩
              have HBwc := Lib.hid (bcall HBwa.out hb)
              have HKwc := Lib.hid (HKwa.out.call hb)
              have ownwc := ownwa.keep hb
              have HBbwc : Hid (wc.heap[b]? = wr.heap[b]?) := Lib.hid ((hb.block b (by have := HBL.out; have := HKwa.out.size; omega)).trans HBbwa.out)
              clear hb ownwa
              obtain ⟨q2, hq2⟩ : ∃ z, simO (getR o s) (getR u s) = z := ⟨_, rfl⟩
              have HQ2 := Lib.hid hq2
              rw [hq2]
              clear hq2
              cases q2
              · go_wp2_with fail
                refine (conform_same w6 _ _ _ (getR t) (getR u) _ _ s HE6.out HBwc.out (HT9.out.2.1.lift (HKwc.out.block _ (by have := HBL.out; omega) (by have := HBL.out; omega))) (HT9.out.2.2.lift (HKwc.out.block _ (by have := HBL.out; omega) (by have := HBL.out; omega))) HR.out.2.1.right HR.out.2.2.right HSK.out.2.2).mono ?_
                rintro e wd ⟨rfl, hb⟩
                have HBwd := Lib.hid (bcall HBwc.out hb)
                have HKwd := Lib.hid (HKwc.out.call hb)
                have ownwd := ownwc.keep hb
                have HBbwd : Hid (wd.heap[b]? = wr.heap[b]?) := Lib.hid ((hb.block b (by have := HBL.out; have := HKwc.out.size; omega)).trans HBbwc.out)
                clear hb ownwc
                obtain ⟨q3, hq3⟩ : ∃ z, simO (getR t s) (getR u s) = z := ⟨_, rfl⟩
                have HQ3 := Lib.hid hq3
                rw [hq3]
                clear hq3
                cases q3
                · have HKL : Hid (ks.length ≤ 1500) := Lib.hid (by
                    rw [HI.out.2.1]
                    have h1 := List.length_filter_le (fun x => confM (getR o x) (getR t x) (getR u x)) (S.take k)
                    rw [List.length_take] at h1
                    have := HSn.out.2
                    omega)
                  go_wp2_with (at_builtin; refine str_append (B := w9.heap.size) (p := s) rfl (.tmp 73) (.tmp 75) rfl rfl wd.heap.size rfl (ownwd.keep (bnew (Below.refl _ _))) (Bx.new _ _ _) (by have := HKL.out; omega) (by have := HKwd.out.size; rw [szA]; omega) ?_)
                  intro v' we ownwe ap
                  have HKwe : Hid (Kx b w9 we) := Lib.hid ((HKwd.out.call (bnew (Below.refl _ _))).grown ap.grown fun g hg => (OwnS.base ownwd g hg).1)
                  have HBbwe : Hid (we.heap[b]? = wr.heap[b]?) := Lib.hid ((ap.grown.block b (by have := HKwd.out.size; have := HBL.out; rw [szA]; omega) (fun e => by have := (OwnS.base ownwd b e.symm).1; have := HBL.out; omega)).trans ((heap_alloc_old _ _ (by have := HKwd.out.size; have := HBL.out; omega)).trans HBbwd.out))
                  clear ap ownwd
                  have owny := ownwe
                  obtain ⟨wy, hwy⟩ : ∃ z, we = z := ⟨_, rfl⟩
                  subst hwy
                  have HCF : Hid (confM (getR o s) (getR t s) (getR u s) = true ∧ pickP (getR o s) (getR t s) (getR u s) = getR t s) := Lib.hid (by
                    unfold confM pickP
                    rw [HQ1.out, HQ2.out, HQ3.out]
                    exact ⟨rfl, rfl⟩)
                  obtain ⟨ksn, hksn⟩ : ∃ z, ks ++ [s] = z := ⟨_, rfl⟩
                  rw [hksn] at owny
                  have HKy : Hid (Kx b w9 we ∧ ksn = (S.take (k + 1)).filter (fun x => confM (getR o x) (getR t x) (getR u x)) ∧ we.heap[b]? = wr.heap[b]? ∧ pickP (getR o s) (getR t s) (getR u s) = getR t s) := Lib.hid ⟨HKwe.out, by
                    rw [← hksn, HI.out.2.1, List.take_add_one, HSK.out.1, List.filter_append]
                    have := HCF.out.1
                    simp [this], HBbwe.out, HCF.out.2⟩
                  clear hksn
                  have HTy : Hid (Tab w6 we b2 (getR t) (t.map (·.1))) := Lib.hid (HT9.out.2.1.lift (HKy.out.1.block _ (by have := HBL.out; omega) (by have := HBL.out; omega)))
                  obtain ⟨ax, nx, cx, hl, hg, _⟩ := HTy.out.look s HSK.out.2.2
                  have el := hl true
                  rw [if_pos rfl] at el
                  obtain ⟨x, hx⟩ : ∃ x, getR t s = x := ⟨_, rfl⟩
                  rw [hx] at el
                  have HXX : Hid (getR t s = x ∧ ∀ gs, x = some gs → SlG w6 (.slice ax nx cx) gs) := Lib.hid ⟨hx, fun gs h => hg gs (by rw [hx]; exact h)⟩
                  clear hl hg hx
                  cases x with
                  | none =>
                    rw [Option.isSome_none] at el
                    have HJ : Hid (Kx b w9 we ∧ ksn = (S.take (k + 1)).filter (fun x => confM (getR o x) (getR t x) (getR u x)) ∧ Tab w6 we b (outF S (fun x => pickP (getR o x) (getR t x) (getR u x)) (k + 1)) (outN S (fun x => pickP (getR o x) (getR t x) (getR u x)) (k + 1))) := Lib.hid (by
                      have h1 := outN_none (f := (fun x => pickP (getR o x) (getR t x) (getR u x))) HSK.out.1 (HKy.out.2.2.2.trans HXX.out.1) HSK.out.2.1
                      rw [h1.1, h1.2]
                      exact ⟨HKy.out.1, HKy.out.2.1, HI.out.2.2.lift HKy.out.2.2.1⟩)
                    clear HKy HTy
                    go_wp2_with fail
                    go_roundw
                    case rel => exact ⟨k + 1, ksn, by omega, by go_num, owny, HJ⟩
                    case measure => simp [RowKit.intOf]; omega
                  | some gs =>
                    rw [Option.isSome_some] at el
                    have hTb := HI.out.2.2.lift HKy.out.2.2.1
                    obtain ⟨_, A, hA, hperm, hrel⟩ := hTb
                    have HA := Lib.hid (And.intro hA (And.intro hperm hrel))
                    have hAl : Hid (A.length < maxLen) := Lib.hid (by
                      have h1 := hperm.length_eq
                      rw [List.length_map] at h1
                      have h2 : (outN S (fun x => pickP (getR o x) (getR t x) (getR u x)) k).length ≤ (S.take k).length := List.length_filter_le _ _
                      rw [List.length_take] at h2
                      have := HSn.out.2
                      unfold maxLen; omega)
                    clear hA hperm hrel
                    go_wp2_with (at_mapUpdate; refine mapG_update rfl (.tmp 84) (.tmp 85) (.tmp 86) rfl HA.out.1 rfl s (.slice ax nx cx) rfl rfl HSK.out.2.2 hAl.out ?_)
                    intro wz hmz hoz
                    have ownz : OwnS w9.heap.size wz v' ksn := own_keepg owny fun g hg _ => hoz.block g (by have h1 := (OwnS.base owny g hg).1; have := HBL.out; omega)
                    have HJ : Hid (Kx b w9 wz ∧ ksn = (S.take (k + 1)).filter (fun x => confM (getR o x) (getR t x) (getR u x)) ∧ Tab w6 wz b (outF S (fun x => pickP (getR o x) (getR t x) (getR u x)) (k + 1)) (outN S (fun x => pickP (getR o x) (getR t x) (getR u x)) (k + 1))) := Lib.hid (by
                      have hp : pickP (getR o s) (getR t s) (getR u s) = some gs := HKy.out.2.2.2.trans HXX.out.1
                      have h1 := outF_succ (f := (fun x => pickP (getR o x) (getR t x) (getR u x))) HSK.out.1
                      have h2 := outN_succ (f := (fun x => pickP (getR o x) (getR t x) (getR u x))) HSK.out.1
                      have h3 := outN_srt (fun x => pickP (getR o x) (getR t x) (getR u x)) (k + 1) HSK.out.2.1
                      rw [hp] at h1 h2
                      rw [show (if (some gs).isSome = true then [s] else []) = [s] from rfl] at h2
                      rw [h2] at h3
                      rw [h1, h2]
                      exact ⟨HKy.out.1.only hoz, HKy.out.2.1, Tab.put HA.out.2.1 HA.out.2.2 hmz (outF_new HSK.out.1 HSK.out.2.1) (HXX.out.2 gs rfl) h3⟩)
                    clear hmz hoz owny el
                    go_wp2_with fail
                    go_roundw
                    case rel => exact ⟨k + 1, ksn, by omega, by go_num, ownz, HJ⟩
                    case measure => simp [RowKit.intOf]; omega
                · have owny := ownwd
                  obtain ⟨wy, hwy⟩ : ∃ z, wd = z := ⟨_, rfl⟩
                  subst hwy
                  have HCF : Hid (confM (getR o s) (getR t s) (getR u s) = false ∧ pickP (getR o s) (getR t s) (getR u s) = getR t s) := Lib.hid (by
                    unfold confM pickP
                    rw [HQ1.out, HQ2.out, HQ3.out]
                    exact ⟨rfl, rfl⟩)
                  obtain ⟨ksn, hksn⟩ : ∃ z, ks = z := ⟨_, rfl⟩
                  rw [hksn] at owny
                  have HKy : Hid (Kx b w9 wd ∧ ksn = (S.take (k + 1)).filter (fun x => confM (getR o x) (getR t x) (getR u x)) ∧ wd.heap[b]? = wr.heap[b]? ∧ pickP (getR o s) (getR t s) (getR u s) = getR t s) := Lib.hid ⟨HKwd.out, by
                    rw [← hksn, HI.out.2.1, List.take_add_one, HSK.out.1, List.filter_append]
                    have := HCF.out.1
                    simp [this], HBbwd.out, HCF.out.2⟩
                  clear hksn
                  have HTy : Hid (Tab w6 wd b2 (getR t) (t.map (·.1))) := Lib.hid (HT9.out.2.1.lift (HKy.out.1.block _ (by have := HBL.out; omega) (by have := HBL.out; omega)))
                  obtain ⟨ax, nx, cx, hl, hg, _⟩ := HTy.out.look s HSK.out.2.2
                  have el := hl true
                  rw [if_pos rfl] at el
                  obtain ⟨x, hx⟩ : ∃ x, getR t s = x := ⟨_, rfl⟩
                  rw [hx] at el
                  have HXX : Hid (getR t s = x ∧ ∀ gs, x = some gs → SlG w6 (.slice ax nx cx) gs) := Lib.hid ⟨hx, fun gs h => hg gs (by rw [hx]; exact h)⟩
                  clear hl hg hx
                  cases x with
                  | none =>
                    rw [Option.isSome_none] at el
                    have HJ : Hid (Kx b w9 wd ∧ ksn = (S.take (k + 1)).filter (fun x => confM (getR o x) (getR t x) (getR u x)) ∧ Tab w6 wd b (outF S (fun x => pickP (getR o x) (getR t x) (getR u x)) (k + 1)) (outN S (fun x => pickP (getR o x) (getR t x) (getR u x)) (k + 1))) := Lib.hid (by
                      have h1 := outN_none (f := (fun x => pickP (getR o x) (getR t x) (getR u x))) HSK.out.1 (HKy.out.2.2.2.trans HXX.out.1) HSK.out.2.1
                      rw [h1.1, h1.2]
                      exact ⟨HKy.out.1, HKy.out.2.1, HI.out.2.2.lift HKy.out.2.2.1⟩)
                    clear HKy HTy
                    go_wp2_with fail
                    go_roundw
                    case rel => exact ⟨k + 1, ksn, by omega, by go_num, owny, HJ⟩
                    case measure => simp [RowKit.intOf]; omega
                  | some gs =>
                    rw [Option.isSome_some] at el
                    have hTb := HI.out.2.2.lift HKy.out.2.2.1
                    obtain ⟨_, A, hA, hperm, hrel⟩ := hTb
                    have HA := Lib.hid (And.intro hA (And.intro hperm hrel))
                    have hAl : Hid (A.length < maxLen) := Lib.hid (by
                      have h1 := hperm.length_eq
                      rw [List.length_map] at h1
                      have h2 : (outN S (fun x => pickP (getR o x) (getR t x) (getR u x)) k).length ≤ (S.take k).length := List.length_filter_le _ _
                      rw [List.length_take] at h2
                      have := HSn.out.2
                      unfold maxLen; omega)
                    clear hA hperm hrel
                    go_wp2_with (at_mapUpdate; refine mapG_update rfl (.tmp 84) (.tmp 85) (.tmp 86) rfl HA.out.1 rfl s (.slice ax nx cx) rfl rfl HSK.out.2.2 hAl.out ?_)
                    intro wz hmz hoz
                    have ownz : OwnS w9.heap.size wz u16 ksn := own_keepg owny fun g hg _ => hoz.block g (by have h1 := (OwnS.base owny g hg).1; have := HBL.out; omega)
                    have HJ : Hid (Kx b w9 wz ∧ ksn = (S.take (k + 1)).filter (fun x => confM (getR o x) (getR t x) (getR u x)) ∧ Tab w6 wz b (outF S (fun x => pickP (getR o x) (getR t x) (getR u x)) (k + 1)) (outN S (fun x => pickP (getR o x) (getR t x) (getR u x)) (k + 1))) := Lib.hid (by
                      have hp : pickP (getR o s) (getR t s) (getR u s) = some gs := HKy.out.2.2.2.trans HXX.out.1
                      have h1 := outF_succ (f := (fun x => pickP (getR o x) (getR t x) (getR u x))) HSK.out.1
                      have h2 := outN_succ (f := (fun x => pickP (getR o x) (getR t x) (getR u x))) HSK.out.1
                      have h3 := outN_srt (fun x => pickP (getR o x) (getR t x) (getR u x)) (k + 1) HSK.out.2.1
                      rw [hp] at h1 h2
                      rw [show (if (some gs).isSome = true then [s] else []) = [s] from rfl] at h2
                      rw [h2] at h3
                      rw [h1, h2]
                      exact ⟨HKy.out.1.only hoz, HKy.out.2.1, Tab.put HA.out.2.1 HA.out.2.2 hmz (outF_new HSK.out.1 HSK.out.2.1) (HXX.out.2 gs rfl) h3⟩)
                    clear hmz hoz owny el
                    go_wp2_with fail
                    go_roundw
                    case rel => exact ⟨k + 1, ksn, by omega, by go_num, ownz, HJ⟩
                    case measure => simp [RowKit.intOf]; omega
              · have owny := ownwc
                obtain ⟨wy, hwy⟩ : ∃ z, wc = z := ⟨_, rfl⟩
                subst hwy
                have HCF : Hid (confM (getR o s) (getR t s) (getR u s) = false ∧ pickP (getR o s) (getR t s) (getR u s) = getR t s) := Lib.hid (by
                  unfold confM pickP
                  rw [HQ1.out, HQ2.out]
                  exact ⟨rfl, rfl⟩)
                obtain ⟨ksn, hksn⟩ : ∃ z, ks = z := ⟨_, rfl⟩
                rw [hksn] at owny
                have HKy : Hid (Kx b w9 wc ∧ ksn = (S.take (k + 1)).filter (fun x => confM (getR o x) (getR t x) (getR u x)) ∧ wc.heap[b]? = wr.heap[b]? ∧ pickP (getR o s) (getR t s) (getR u s) = getR t s) := Lib.hid ⟨HKwc.out, by
                  rw [← hksn, HI.out.2.1, List.take_add_one, HSK.out.1, List.filter_append]
                  have := HCF.out.1
                  simp [this], HBbwc.out, HCF.out.2⟩
                clear hksn
                have HTy : Hid (Tab w6 wc b2 (getR t) (t.map (·.1))) := Lib.hid (HT9.out.2.1.lift (HKy.out.1.block _ (by have := HBL.out; omega) (by have := HBL.out; omega)))
                obtain ⟨ax, nx, cx, hl, hg, _⟩ := HTy.out.look s HSK.out.2.2
                have el := hl true
                rw [if_pos rfl] at el
                obtain ⟨x, hx⟩ : ∃ x, getR t s = x := ⟨_, rfl⟩
                rw [hx] at el
                have HXX : Hid (getR t s = x ∧ ∀ gs, x = some gs → SlG w6 (.slice ax nx cx) gs) := Lib.hid ⟨hx, fun gs h => hg gs (by rw [hx]; exact h)⟩
                clear hl hg hx
                cases x with
                | none =>
                  rw [Option.isSome_none] at el
                  have HJ : Hid (Kx b w9 wc ∧ ksn = (S.take (k + 1)).filter (fun x => confM (getR o x) (getR t x) (getR u x)) ∧ Tab w6 wc b (outF S (fun x => pickP (getR o x) (getR t x) (getR u x)) (k + 1)) (outN S (fun x => pickP (getR o x) (getR t x) (getR u x)) (k + 1))) := Lib.hid (by
                    have h1 := outN_none (f := (fun x => pickP (getR o x) (getR t x) (getR u x))) HSK.out.1 (HKy.out.2.2.2.trans HXX.out.1) HSK.out.2.1
                    rw [h1.1, h1.2]
                    exact ⟨HKy.out.1, HKy.out.2.1, HI.out.2.2.lift HKy.out.2.2.1⟩)
                  clear HKy HTy
                  go_wp2_with fail
                  go_roundw
                  case rel => exact ⟨k + 1, ksn, by omega, by go_num, owny, HJ⟩
                  case measure => simp [RowKit.intOf]; omega
                | some gs =>
                  rw [Option.isSome_some] at el
                  have hTb := HI.out.2.2.lift HKy.out.2.2.1
                  obtain ⟨_, A, hA, hperm, hrel⟩ := hTb
                  have HA := Lib.hid (And.intro hA (And.intro hperm hrel))
                  have hAl : Hid (A.length < maxLen) := Lib.hid (by
                    have h1 := hperm.length_eq
                    rw [List.length_map] at h1
                    have h2 : (outN S (fun x => pickP (getR o x) (getR t x) (getR u x)) k).length ≤ (S.take k).length := List.length_filter_le _ _
                    rw [List.length_take] at h2
                    have := HSn.out.2
                    unfold maxLen; omega)
                  clear hA hperm hrel
                  go_wp2_with (at_mapUpdate; refine mapG_update rfl (.tmp 84) (.tmp 85) (.tmp 86) rfl HA.out.1 rfl s (.slice ax nx cx) rfl rfl HSK.out.2.2 hAl.out ?_)
                  intro wz hmz hoz
                  have ownz : OwnS w9.heap.size wz u16 ksn := own_keepg owny fun g hg _ => hoz.block g (by have h1 := (OwnS.base owny g hg).1; have := HBL.out; omega)
                  have HJ : Hid (Kx b w9 wz ∧ ksn = (S.take (k + 1)).filter (fun x => confM (getR o x) (getR t x) (getR u x)) ∧ Tab w6 wz b (outF S (fun x => pickP (getR o x) (getR t x) (getR u x)) (k + 1)) (outN S (fun x => pickP (getR o x) (getR t x) (getR u x)) (k + 1))) := Lib.hid (by
                    have hp : pickP (getR o s) (getR t s) (getR u s) = some gs := HKy.out.2.2.2.trans HXX.out.1
                    have h1 := outF_succ (f := (fun x => pickP (getR o x) (getR t x) (getR u x))) HSK.out.1
                    have h2 := outN_succ (f := (fun x => pickP (getR o x) (getR t x) (getR u x))) HSK.out.1
                    have h3 := outN_srt (fun x => pickP (getR o x) (getR t x) (getR u x)) (k + 1) HSK.out.2.1
                    rw [hp] at h1 h2
                    rw [show (if (some gs).isSome = true then [s] else []) = [s] from rfl] at h2
                    rw [h2] at h3
                    rw [h1, h2]
                    exact ⟨HKy.out.1.only hoz, HKy.out.2.1, Tab.put HA.out.2.1 HA.out.2.2 hmz (outF_new HSK.out.1 HSK.out.2.1) (HXX.out.2 gs rfl) h3⟩)
                  clear hmz hoz owny el
                  go_wp2_with fail
                  go_roundw
                  case rel => exact ⟨k + 1, ksn, by omega, by go_num, ownz, HJ⟩
                  case measure => simp [RowKit.intOf]; omega
            · have owny := ownwa
              obtain ⟨wy, hwy⟩ : ∃ z, wa = z := ⟨_, rfl⟩
              subst hwy
              have HCF : Hid (confM (getR o s) (getR t s) (getR u s) = false ∧ pickP (getR o s) (getR t s) (getR u s) = getR u s) := Lib.hid (by
                unfold confM pickP
                rw [HQ1.out]
                exact ⟨rfl, rfl⟩)
              obtain ⟨ksn, hksn⟩ : ∃ z, ks = z := ⟨_, rfl⟩
              rw [hksn] at owny
              have HKy : Hid (Kx b w9 wa ∧ ksn = (S.take (k + 1)).filter (fun x => confM (getR o x) (getR t x) (getR u x)) ∧ wa.heap[b]? = wr.heap[b]? ∧ pickP (getR o s) (getR t s) (getR u s) = getR u s) := Lib.hid ⟨HKwa.out, by
                rw [← hksn, HI.out.2.1, List.take_add_one, HSK.out.1, List.filter_append]
                have := HCF.out.1
                simp [this], HBbwa.out, HCF.out.2⟩
              clear hksn
              have HTy : Hid (Tab w6 wa b3 (getR u) (u.map (·.1))) := Lib.hid (HT9.out.2.2.lift (HKy.out.1.block _ (by have := HBL.out; omega) (by have := HBL.out; omega)))
              obtain ⟨ax, nx, cx, hl, hg, _⟩ := HTy.out.look s HSK.out.2.2
              have el := hl true
              rw [if_pos rfl] at el
              obtain ⟨x, hx⟩ : ∃ x, getR u s = x := ⟨_, rfl⟩
              rw [hx] at el
              have HXX : Hid (getR u s = x ∧ ∀ gs, x = some gs → SlG w6 (.slice ax nx cx) gs) := Lib.hid ⟨hx, fun gs h => hg gs (by rw [hx]; exact h)⟩
              clear hl hg hx
              cases x with
              | none =>
                rw [Option.isSome_none] at el
                have HJ : Hid (Kx b w9 wa ∧ ksn = (S.take (k + 1)).filter (fun x => confM (getR o x) (getR t x) (getR u x)) ∧ Tab w6 wa b (outF S (fun x => pickP (getR o x) (getR t x) (getR u x)) (k + 1)) (outN S (fun x => pickP (getR o x) (getR t x) (getR u x)) (k + 1))) := Lib.hid (by
                  have h1 := outN_none (f := (fun x => pickP (getR o x) (getR t x) (getR u x))) HSK.out.1 (HKy.out.2.2.2.trans HXX.out.1) HSK.out.2.1
                  rw [h1.1, h1.2]
                  exact ⟨HKy.out.1, HKy.out.2.1, HI.out.2.2.lift HKy.out.2.2.1⟩)
                clear HKy HTy
                go_wp2_with fail
                go_roundw
                case rel => exact ⟨k + 1, ksn, by omega, by go_num, owny, HJ⟩
                case measure => simp [RowKit.intOf]; omega
              | some gs =>
                rw [Option.isSome_some] at el
                have hTb := HI.out.2.2.lift HKy.out.2.2.1
                obtain ⟨_, A, hA, hperm, hrel⟩ := hTb
                have HA := Lib.hid (And.intro hA (And.intro hperm hrel))
                have hAl : Hid (A.length < maxLen) := Lib.hid (by
                  have h1 := hperm.length_eq
                  rw [List.length_map] at h1
                  have h2 : (outN S (fun x => pickP (getR o x) (getR t x) (getR u x)) k).length ≤ (S.take k).length := List.length_filter_le _ _
                  rw [List.length_take] at h2
                  have := HSn.out.2
                  unfold maxLen; omega)
                clear hA hperm hrel
                go_wp2_with (at_mapUpdate; refine mapG_update rfl (.tmp 84) (.tmp 85) (.tmp 86) rfl HA.out.1 rfl s (.slice ax nx cx) rfl rfl HSK.out.2.2 hAl.out ?_)
                intro wz hmz hoz
                have ownz : OwnS w9.heap.size wz u16 ksn := own_keepg owny fun g hg _ => hoz.block g (by have h1 := (OwnS.base owny g hg).1; have := HBL.out; omega)
                have HJ : Hid (Kx b w9 wz ∧ ksn = (S.take (k + 1)).filter (fun x => confM (getR o x) (getR t x) (getR u x)) ∧ Tab w6 wz b (outF S (fun x => pickP (getR o x) (getR t x) (getR u x)) (k + 1)) (outN S (fun x => pickP (getR o x) (getR t x) (getR u x)) (k + 1))) := Lib.hid (by
                  have hp : pickP (getR o s) (getR t s) (getR u s) = some gs := HKy.out.2.2.2.trans HXX.out.1
                  have h1 := outF_succ (f := (fun x => pickP (getR o x) (getR t x) (getR u x))) HSK.out.1
                  have h2 := outN_succ (f := (fun x => pickP (getR o x) (getR t x) (getR u x))) HSK.out.1
                  have h3 := outN_srt (fun x => pickP (getR o x) (getR t x) (getR u x)) (k + 1) HSK.out.2.1
                  rw [hp] at h1 h2
                  rw [show (if (some gs).isSome = true then [s] else []) = [s] from rfl] at h2
                  rw [h2] at h3
                  rw [h1, h2]
                  exact ⟨HKy.out.1.only hoz, HKy.out.2.1, Tab.put HA.out.2.1 HA.out.2.2 hmz (outF_new HSK.out.1 HSK.out.2.1) (HXX.out.2 gs rfl) h3⟩)
                clear hmz hoz owny el
                go_wp2_with fail
                go_roundw
                case rel => exact ⟨k + 1, ksn, by omega, by go_num, ownz, HJ⟩
                case measure => simp [RowKit.intOf]; omega
          · obtain rfl : n = k := by omega
            obtain ⟨_, A, hA, hperm, _⟩ := HI.out.2.2
            have HA : Hid (MapG wr b A) := Lib.hid hA
            obtain ⟨m, hm⟩ : ∃ m, A.length = m := ⟨_, rfl⟩
            have eP : (outP o t u) = rowsOf (fun x => pickP (getR o x) (getR t x) (getR u x)) S := by unfold outP; rw [HSS.out]
            have HM : Hid (A.length = m ∧ (outN S (fun x => pickP (getR o x) (getR t x) (getR u x)) n).length = m ∧ (outP o t u).length = m ∧ outP o t u = rowsOf (fun x => pickP (getR o x) (getR t x) (getR u x)) S) := Lib.hid (by
              have h1 := hperm.length_eq
              rw [List.length_map, hm] at h1
              refine ⟨hm, h1.symm, ?_, eP⟩
              rw [eP, ← out_len HSn.out.1]; exact h1.symm)
            have x6 := HI.out.1.bx X69.out (by have := X66.out.lt; have := HBL.out; omega)
            have X6r := Lib.hid x6
            have HBr : Hid (Below w6.heap.size w6 wr) := Lib.hid (below_kx HB9.out HI.out.1 (by have := HBL.out; omega) (by have := HBL.out; omega))
            have HBW : Hid (Below W.heap.size W wr) := Lib.hid (HW6.out.trans (HBr.out.mono HW6.out.size))
            clear hA hperm hm eP
            by_cases h5 : 500 < m
            · have hgt : decide ((m : Int) > 500) = true := decide_eq_true (by omega)
              obtain ⟨q6, f6, _⟩ := x6.all
              have q60 := q6 0
              have f60 := f6 0
              simp only [List.getElem?_toArray, List.getElem?_cons_zero] at q60
              have X7 : Hid (Bx (wr.setCell ⟨p6, 0, none⟩ (.slice none 0 0)) p6 57 #[.slice none 0 0]) := Lib.hid (by have := x6.set 0 (.slice none 0 0); simpa using this)
              have HE : Hid (mErr (err3 o t u) (outP o t u) = 4 ∧ Below W.heap.size W (wr.setCell ⟨p6, 0, none⟩ (.slice none 0 0))) := Lib.hid ⟨by
                unfold mErr
                rw [HZ.out, if_neg (by simp), HM.out.2.2.1, if_pos h5], bput (by have := HPP.out; omega) HBW.out⟩
              clear x6 q6 f6
              go_wp2_with (at_len; refine mapG_len rfl (.tmp 88) rfl HA.out rfl ?_; rw [HM.out.1])
              go_wp2_with fail
              refine bodyPost_ret (v := .tuple #[.agg #[.slice none 0 0], .slice none 0 0, .int .i64 4]) (results_cell2 (p := 6) (q := 7) (r := 8) (ty := 57) (by kernel_rfl) _ _ p6 57 #[.slice none 0 0] (0, 0) _ _ _ rfl rfl rfl X7.out Tryz.underlying57 rfl (by kernel_rfl)) rfl ⟨.inl ?_, HE.out.2⟩
              rw [HE.out.1]
              exact ⟨by decide, rfl⟩
            · have hgt : decide ((m : Int) > 500) = false := decide_eq_false (by omega)
              have hown := Lib.hid own
              clear x6
              go_wp2_with (at_len; refine mapG_len rfl (.tmp 88) rfl HA.out rfl ?_; rw [HM.out.1])
              go_wp2_with fail
              refine (conform_look w6 _ b (outF S (fun x => pickP (getR o x) (getR t x) (getR u x)) n) (outN S (fun x => pickP (getR o x) (getR t x) (getR u x)) n) HBr.out HI.out.2.2 (fun s gs h => ?_) (by rw [HM.out.2.1]; omega) (fun s hs => names_size HR.out.1 HR.out.2.1 HR.out.2.2 s (by rw [HSS.out]; exact (List.mem_of_mem_take (List.mem_filter.1 hs).1)))).mono ?_
              · unfold outF at h
                split at h
                · replace h : pickP (getR o s) (getR t s) (getR u s) = some gs := h
                  unfold pickP at h
                  split at h
                  · exact HR.out.2.2.right _ _ h
                  · exact HR.out.2.1.right _ _ h
                · cases h
              rintro e wl ⟨v, rfl, ⟨hS1, hS2⟩, hbl⟩
              rw [out_rows HSn.out.1, ← HM.out.2.2.2] at hS1 hS2
              obtain ⟨av, cv, hv, _⟩ := id hS1
              obtain ⟨nv, hnv⟩ : ∃ z, (outP o t u).length = z := ⟨_, rfl⟩
              rw [hnv] at hv
              subst hv
              have x6 := X6r.out.keep hbl
              obtain ⟨q6, f6, _⟩ := x6.all
              have q60 := q6 0
              have f60 := f6 0
              simp only [List.getElem?_toArray, List.getElem?_cons_zero] at q60
              have X7 : Hid (Bx (wl.setCell ⟨p6, 0, none⟩ (.slice av nv cv)) p6 57 #[.slice av nv cv]) := Lib.hid (by have := x6.set 0 (.slice av nv cv); simpa using this)
              have HE : Hid (mErr (err3 o t u) (outP o t u) = 0 ∧ SlL (wl.setCell ⟨p6, 0, none⟩ (.slice av nv cv)) (.slice av nv cv) (outP o t u) ∧ OwnS W.heap.size (wl.setCell ⟨p6, 0, none⟩ (.slice av nv cv)) u16 (confs o t u) ∧ Below W.heap.size W (wl.setCell ⟨p6, 0, none⟩ (.slice av nv cv))) := Lib.hid ⟨by
                unfold mErr
                rw [HZ.out, if_neg (by simp), HM.out.2.2.1, if_neg h5], hS2 p6 0 _ X6r.out.lt, by
                have h1 : confs o t u = ks := by
                  unfold confs
                  rw [HSS.out, HI.out.2.1, ← HSn.out.1, List.take_length]
                rw [h1]
                refine own_monoS (own_keepg (hown.out.keep hbl) fun g hg hlt => ?_) (by have := HW6.out.size; have := HBL.out; omega)
                have h2 := (OwnS.base hown.out g hg).1
                exact Below.heap_setCell _ _ _ _ (by have := X66.out.lt; have := HBL.out; dsimp only; omega), bput (by have := HPP.out; omega) (bcall HBW.out hbl)⟩
              clear x6 q6 f6 hS1 hS2 hnv
              go_wp2_with fail
              refine bodyPost_ret (v := .tuple #[.agg #[.slice av nv cv], u16, .int .i64 0]) (results_cell2 (p := 6) (q := 7) (r := 8) (ty := 57) (by kernel_rfl) _ _ p6 57 #[.slice av nv cv] (0, 0) _ _ _ rfl rfl rfl X7.out Tryz.underlying57 rfl (by kernel_rfl)) rfl ⟨.inr ⟨HE.out.1, _, _, rfl, HE.out.2.1, HE.out.2.2.1⟩, HE.out.2.2.2⟩
end
end Go.Proofs.YticekgnmiaidjaaGreatDoor
