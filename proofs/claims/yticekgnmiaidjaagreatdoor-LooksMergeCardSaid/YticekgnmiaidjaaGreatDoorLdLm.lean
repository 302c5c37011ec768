/- What the laid variables give the walk; the wrap with the laid variables and the world's shape. -/
import Derived.Test.YticekgnmiaidjaaGreatDoorRows
import Derived.Test.YticekgnmiaidjaaGreatDoorFfB
import Derived.OpenShut
import Derived.ProofKit
import Derived.LaidMore
import Derived.SizedLaws
import Derived.Lib.LaidTab
import Derived.Shelf.Vars
namespace Go.Proofs.YticekgnmiaidjaaGreatDoor
open Go.ChangeShapes Go.WideShapes Go.ChangeAt Go.RowKit
section
variable {H : Type} {enc : TypeId × Value → H}
theorem handed_laid_shaped {a : Assume} {C : Checked} {os : Os} {f : FuncId} {fn : Func} {s : ChangeSpec} {conds : List PathCond} {apart fresh handsOn again : Bool} {X : World → Array Value → Prop}
    (hX : ∀ (w w' : World) (args : Array Value), w.heap = w'.heap → X w args → X w' args)
    (own : ownKnob C.prog.godebug = none) (started : os.Started) (noInit : C.prog.inits.idxOf? f = none) (hfn : C.prog.funcs[f]? = some fn)
    (witness : ∃ (w : World) (tape : Tape) (i : Input), w.os = os ∧ (w.forCall tape i).Shaped C.prog ∧ i.vars = [] ∧ Input.okWide C.prog (w.forCall tape i) .any w.heap.size f i ∧
      ((s.pre enc C.prog fn conds apart (w.forCall tape i).memory i.args ∧ X (w.forCall tape i).memory i.args) ∧ sizedMet enc C.prog fn (OpenSpec.ofChange s) apart (w.forCall tape i).memory i.args) ∧ a.holds C.prog (lone (Frame.enter C.prog f i.args .normal) [] (w.forCall tape i)))
    (contract : ∀ (W : World) (base : Nat) (args : Array Value) (ds gs : List (DataW H)) (before : List MemPlace),
      (∀ (j : Nat) t v, fn.params[j]? = some t → args[j]? = some v → Value.okWide C.prog W .any base t v) →
      DataW.Whole enc C.prog fn.params.toList s.vars apart W args.toList ds gs before →
      X W args → W.ShapedOpen C.prog →
      Calls C.prog f args W fun e W' => ∃ v, e = .returned v ∧ s.post enc C.prog fn apart fresh handsOn again W args v W') :
    ReturnsInHanded a C os f .any (fun w args => (s.pre enc C.prog fn conds apart w args ∧ X w args) ∧ sizedMet enc C.prog fn (OpenSpec.ofChange s) apart w args) (s.post enc C.prog fn apart fresh handsOn again) := by
  refine returnsInHanded_of_calls own started noInit witness fun w tape i _ hsh _ hok hpre _ => ?_
  obtain ⟨_, _, _, fn', h1, _, _, _, _, hval⟩ := hok
  obtain rfl : fn' = fn := Option.some.inj (h1.symm.trans hfn)
  obtain ⟨⟨⟨ds, gs, before, hw, _⟩, hx⟩, _⟩ := hpre
  refine (contract _ w.heap.size i.args ds gs before hval (DataW.Whole.of_heap (w' := w.forCall tape i) (by rfl) hw) (hX _ _ _ (by rfl) hx) hsh).mono fun e W' ⟨v, he, hp⟩ => ?_
  subst he
  exact ChangeSpec.post_blind hp
end

/-- A table of pairs of integers that reads as the rows holds the rows, cell for cell. -/
theorem cells_of_pairs {H : Type} {enc : TypeId × Value → H} {P : Program} {w : World} {base : Nat} {sp : Nat → Bool} {held : Bool} {fuel : Nat} {t e u : TypeId} {n : Nat} {k : IntKind} {fs : Array Field} {f0 f1 : Field} {cs : List Value} {rows : List (Nat × Nat)} {p : List MemPlace}
    (ht : P.underlying t = some (.array n e)) (he : P.underlying e = some (.struct fs)) (hu : P.underlying u = some (.int k)) (hce : P.cellsOf e = 2) (hcu : P.cellsOf u = 1)
    (h0 : fs[0]? = some f0) (h1 : fs[1]? = some f1) (t0 : f0.type = u) (t1 : f1.type = u) (o0 : f0.offset = 0) (o1 : f1.offset = 1)
    (h : DataW.trod enc P w base sp held fuel t cs = some (.agg (rows.map fun x => .agg [.lit (.int k x.1), .lit (.int k x.2)]), p)) :
    rows.length = n ∧ ∀ i x, rows[i]? = some x → cs[i * 2]? = some (.int k (x.1 : Int)) ∧ cs[i * 2 + 1]? = some (.int k (x.2 : Int)) := by
  obtain ⟨xs, m, _, hx, hl, hxl, hel⟩ := DataW.trod_array ht h
  have hxs : rows.map (fun x => (DataW.agg [.lit (.int k x.1), .lit (.int k x.2)] : DataW H)) = xs.map (·.1) := by
    have := congrArg Prod.fst hx
    simpa using this
  have hrl : rows.length = n := by
    have := congrArg List.length hxs
    simp at this
    omega
  refine ⟨hrl, fun i x hi => ?_⟩
  have hin : i < n := by rw [← hrl]; exact (List.getElem?_eq_some_iff.1 hi).1
  have e1 := hel i hin
  rw [List.getElem?_eq_getElem (by omega), hce] at e1
  have e2 : (xs[i]'(by omega)).1 = (DataW.agg [.lit (.int k x.1), .lit (.int k x.2)] : DataW H) := by
    have := congrArg (·[i]?) hxs
    simp only [List.getElem?_map, hi, Option.map_some, List.getElem?_eq_getElem (show i < xs.length by omega)] at this
    exact (Option.some.inj this).symm
  obtain ⟨ys, m2, _, hy, _, hyl, hyel⟩ := DataW.trod_struct he e1
  have hys : ys.map (·.1) = [DataW.lit (.int k x.1), .lit (.int k x.2)] := by
    rw [hy] at e2
    simpa using e2
  have hy2 : ys.length = 2 := by
    have := congrArg List.length hys
    simpa using this
  have g0 := hyel 0 f0 h0
  have g1 := hyel 1 f1 h1
  rw [t0, o0, hcu, List.getElem?_eq_getElem (by omega)] at g0
  rw [t1, o1, hcu, List.getElem?_eq_getElem (by omega)] at g1
  obtain ⟨z0, c0, d0, _⟩ := DataW.trod_int hu g0
  obtain ⟨z1, c1, d1, _⟩ := DataW.trod_int hu g1
  have v0 : (z0 : Int) = x.1 := by
    have := congrArg (·[0]?) hys
    simp only [List.getElem?_map, List.getElem?_eq_getElem (show 0 < ys.length by omega), Option.map_some, List.getElem?_cons_zero, d0, Option.some.injEq, DataW.lit.injEq, Lit.int.injEq, true_and] at this
    exact this
  have v1 : (z1 : Int) = x.2 := by
    have := congrArg (·[1]?) hys
    simp only [List.getElem?_map, List.getElem?_eq_getElem (show 1 < ys.length by omega), Option.map_some, List.getElem?_cons_zero, List.getElem?_cons_succ, d1, Option.some.injEq, DataW.lit.injEq, Lit.int.injEq, true_and] at this
    exact this
  refine ⟨?_, ?_⟩
  · have := congrArg (·[0]?) c0
    simp only [List.getElem?_take_of_lt (show 0 < 1 by omega), List.getElem?_take_of_lt (show 0 < 2 by omega), List.getElem?_drop, List.getElem?_cons_zero, Nat.add_zero, v0] at this
    exact this
  · have := congrArg (·[0]?) c1
    simp only [List.getElem?_take_of_lt (show 0 < 1 by omega), List.getElem?_drop, List.getElem?_take_of_lt (show 1 + 0 < 2 by omega), List.getElem?_cons_zero, Nat.add_zero, v1] at this
    exact this

set_option maxRecDepth 100000 in
theorem env_of_laid {W : World} (hL : laidMetH Tryz.prog Rows.looksMergeRow.laid W) (_hsh : W.ShapedOpen Tryz.prog) : EnvF W := by
  rw [MakeChecks.laidMetH_plain _ _ _ (by kernel_rfl)] at hL
  obtain ⟨ps, ⟨_, _, _, _, _, _, _, _, _, _, ⟨_, _, _, _, _, _, _, _, _, _, ⟨_, _, _, _, _, _, _, _, _, _, ⟨g4, t4, c4, f4, p4, q4, hg4, ht4, hv4, hd4, ⟨_, _, _, _, _, _, _, _, _, _, ⟨_, _, _, _, _, _, _, _, _, _, ⟨g6, t6, c6, f6, p6, q6, hg6, ht6, hv6, hd6, _, _⟩, _⟩, _⟩, _⟩, _⟩, _⟩, _⟩, _⟩ := hL
  refine ⟨?_, ?_⟩
  · have hg : Tryz.prog.globalNamed "internal/strconv.pow10Tab" = some 6 := by kernel_rfl
    have hty : (Tryz.prog.globals[(6 : Nat)]?).map (·.type) = some 278 := by kernel_rfl
    obtain rfl := Option.some.inj (hg.symm.trans hg6)
    obtain rfl := Option.some.inj (hty.symm.trans ht6)
    obtain ⟨hl, hc⟩ := cells_of_pairs (rows := Pinned.pow10Rows) (k := .u64) (u := 187) Tryz.underlying278 Tryz.underlying277 Tryz.underlying187 (by kernel_rfl) (by kernel_rfl) rfl rfl rfl rfl rfl rfl hd6
    intro i hi
    have hi2 : i < Pinned.pow10Rows.length := by rw [hl]; exact hi
    obtain ⟨a, b⟩ := hc i _ (List.getElem?_eq_getElem hi2)
    have e : Pinned.pow10Rows.getD i (0, 0) = Pinned.pow10Rows[i] := by rw [List.getD_eq_getElem?_getD, List.getElem?_eq_getElem hi2]; rfl
    unfold tabHi tabLo
    rw [e]
    refine ⟨?_, ?_⟩
    · have := World.var?_cell hg hv6 (i * 2)
      rw [this, ← Array.getElem?_toList]
      exact a
    · have := World.var?_cell hg hv6 (i * 2 + 1)
      rw [this, ← Array.getElem?_toList]
      exact b
  · have hg : Tryz.prog.globalNamed "internal/strconv.uint64pow10" = some 3 := by kernel_rfl
    have hty : (Tryz.prog.globals[(3 : Nat)]?).map (·.type) = some 246 := by kernel_rfl
    obtain rfl := Option.some.inj (hg.symm.trans hg4)
    obtain rfl := Option.some.inj (hty.symm.trans ht4)
    unfold Lib.TabIs
    rw [hv4]
    have := Lib.cells_of_tab (k := .u64) (zs := Lib.pow10Tab) Tryz.underlying246 Tryz.underlying187 (by kernel_rfl) (by kernel_rfl) hd4
    rw [← this]
end Go.Proofs.YticekgnmiaidjaaGreatDoor
