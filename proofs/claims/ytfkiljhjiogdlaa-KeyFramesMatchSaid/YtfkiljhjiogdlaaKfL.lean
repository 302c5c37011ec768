/- Points that the call gathers by append. -/
import Derived.Test.YtfkiljhjiogdlaaWnG
import Derived.OwnWalk
namespace Go.Proofs.Ytfkiljhjiogdlaa
open Go.RowKit

theorem Bx.keepAt {w w' : World} {B b : Nat} {T : TypeId} {cs : Array Value} (h : Bx w b T cs) (hb : Below B w w') (hlt : b < B) : Bx w' b T cs := by
  unfold Bx
  rw [hb.block b hlt]
  exact h
/-- A call through a function value in a slot. -/
theorem run_go_callv2 {P : Program} {f : FuncId} {fn : Func} (hf : P.funcs[f]? = some fn) (hn : (fn.name == "runtime.NumGoroutine") = false) (hb : fn.body.isNone = false)
    (a : Act) (dst : Option Tmp) (t : Tmp) (cap : Array Value) (xs : Array Operand) (ats : Array TypeId) (ty : TypeId) (pos : String) (after : Array Edge) (guard : Option (Nat × Bool)) (w : World) (args : Array Value)
    (ht : a.tmps[t]?.getD undef = .func (.func f) #[] cap) (hx : xs.map a.eval ++ cap = args) :
    (execOp a.eval { dst, op := .call { callee := .value (.tmp t), args := xs, argTypes := ats }, type := ty, pos, after, guard }).run P w = .ok (.enter f args) w := by
  have h1 : fn.name ≠ "runtime.NumGoroutine" := by simpa using hn
  have h2 : ¬ fn.body = none := by intro e; rw [e] at hb; cases hb
  subst hx
  have ht' : a.eval (.tmp t) = .func (.func f) #[] cap := by simpa [Act.eval] using ht
  simp only [execOp, resolve, ht', Deferred.ofValue]
  simp [invoke, callFunc, hf, h1, h2]
theorem ptCells_append (L K : List (Int × Int)) : ptCells (L ++ K) = ptCells L ++ ptCells K := by unfold ptCells; rw [List.flatMap_append]
theorem infoPt : (Try.prog.info? 71).map (fun i => (i.zero, i.size, i.bytes)) = some (some (.agg #[.int .i64 0, .int .i64 0]), 2, 16) := by kernel_rfl
/-- v is a slice of the call's own that reads as the points L. -/
def OutP (B : Nat) (w : World) (v : Value) (L : List (Int × Int)) : Prop := w.ownsRow B 71 2 v L.length (ptCells L)
theorem OutP.below {B : Nat} {w w' : World} {v : Value} {L : List (Int × Int)} (h : OutP B w v L) (hb : Below w.heap.size w w') : OutP B w' v L := by
  refine ⟨h.1, ?_⟩
  rcases h.2 with h0 | ⟨g, cap, cur, e1, e2, e3, e4⟩
  · exact .inl h0
  · exact .inr ⟨g, cap, cur, e1, e2, (hb.block g (Array.getElem?_eq_some_iff.1 e3).1).trans e3, e4⟩
theorem OutP.put {w : World} {B b o : Nat} {v u : Value} {L : List (Int × Int)} (h : OutP B w v L) (hb : b < B) : OutP B (w.setCell ⟨b, o, none⟩ u) v L := by
  refine ⟨h.1, ?_⟩
  rcases h.2 with h0 | ⟨g, cap, cur, e1, e2, e3, e4⟩
  · exact .inl h0
  · exact .inr ⟨g, cap, cur, e1, e2, by rw [Below.heap_setCell _ _ _ _ (by dsimp only; omega)]; exact e3, e4⟩
theorem OutP.nil (B : Nat) (w : World) : OutP B w (.slice none 0 0) [] := World.ownsRow_nil _ _ _ _
theorem OutP.slP {B : Nat} {w : World} {v : Value} {L : List (Int × Int)} (h : OutP B w v L) (hl : L.length ≤ maxLen) : SlP w v L := cloneP_any h hl
theorem OutP.form {B : Nat} {w : World} {v : Value} {L : List (Int × Int)} (h : OutP B w v L) : ∃ a c, v = .slice a L.length c := by
  rcases h.2 with ⟨h0, h1⟩ | ⟨g, cap, cur, e1, _⟩
  · exact ⟨none, 0, by rw [h0, h1]⟩
  · exact ⟨_, cap, e1⟩
theorem pt_append {B : Nat} {w : World} {L : List (Int × Int)} {x y : Int} {v : Value} {ops : Array Oper} {rest : List Oper} {o : Oper} {a : Act} {Q : Exit → Act → World → Prop} (hgd : o.guard = none) (s z : Operand)
    (ho : o.op = .call { callee := .builtin .append, args := #[s, z], argTypes := #[23, 23] }) (hs : a.eval s = v) (g c : Nat) (hx : a.eval z = .slice (some ⟨g, 0, none⟩) 1 c) (hm : OutP B w v L)
    (hc : Bx w g 71 #[.int .i64 x, .int .i64 y]) (hl : L.length ≤ 1000000) (hB : B ≤ w.heap.size)
    (h : ∀ v' w', OutP B w' v' (L ++ [(x, y)]) → (∀ B0 W0, B0 ≤ B → Below B0 W0 w → Below B0 W0 w') → wpList Try.prog ops Q rest (a.put o.dst v') w') :
    wpList Try.prog ops Q (o :: rest) a w := by
  obtain ⟨i0, hi, hz0, hz1, hz2⟩ := info_parts infoPt
  have hml : maxLen = 9223372036854775807 := rfl
  refine wpList_append_own w hgd s z 23 ho B 71 i0 (.agg #[.int .i64 0, .int .i64 0]) 2 16 Try.underlying23 hi hz0 hz1 hz2 rfl (by decide) v L.length (ptCells L) hs hm ⟨g, 0, none⟩ 1 c [.int .i64 x, .int .i64 y] hx rfl ?_ ?_ (by omega) (by omega) hB ?_
  · intro j u hj
    have := hc.all.1 j
    rw [show ((⟨g, 0, none⟩ : Addr).add j) = ⟨g, j, none⟩ by simp [Addr.add]; intro e; exact e.symm, this]
    simpa using hj
  · intro u hu
    simp at hu
    rcases hu with rfl | rfl <;> rfl
  · intro v' w' hown hgrow _
    refine h v' w' ?_ (fun B0 W0 hB0 hb => ?_)
    · unfold OutP
      rw [ptCells_append, List.length_append]
      exact hown
    · refine hb.grown hgrow (by omega) (fun k hk => ?_)
      rcases hm.2 with ⟨h0, _⟩ | ⟨g1, cap1, cur, e1, e2, e3, _⟩
      · rw [h0] at hk; cases hk
      · rw [e1] at hk
        simp only [Value.ownBlock, Option.some.injEq] at hk
        omega
end Go.Proofs.Ytfkiljhjiogdlaa
