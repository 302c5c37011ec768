/- Bytes that a call gathers beside a block that is only read. -/
import Derived.Test.YticekgnmiaidjaaGreatDoorFfB
import Derived.OwnWalk
namespace Go.Proofs.YticekgnmiaidjaaGreatDoor
open Go.RowKit

theorem infoY : (Tryz.prog.info? 5).map (fun i => (i.zero, i.size, i.bytes)) = some (some (.int .u8 0), 1, 1) := by kernel_rfl
def u8s (l : List Int) : List Value := l.map fun x => Value.int .u8 x
theorem u8s_len (l : List Int) : (u8s l).length = l.length := List.length_map ..
/-- A block of cells, marked in whatever way. -/
def Bk (w : World) (g : Nat) (T : TypeId) (cs : Array Value) : Prop := ∃ mk, w.heap[g]? = some (.cells cs T mk)
theorem Bk.lt {w : World} {g : Nat} {T : TypeId} {cs : Array Value} (h : Bk w g T cs) : g < w.heap.size := by
  obtain ⟨mk, h⟩ := h
  exact (Array.getElem?_eq_some_iff.1 h).1
theorem Bk.keep {w w' : World} {g : Nat} {T : TypeId} {cs : Array Value} (h : Bk w g T cs) (hb : Below w.heap.size w w') : Bk w' g T cs := by
  have hl := h.lt
  obtain ⟨mk, h⟩ := h
  exact ⟨mk, (hb.block g hl).trans h⟩
theorem Bk.cell {w : World} {g : Nat} {T : TypeId} {cs : Array Value} (h : Bk w g T cs) (j : Nat) : w.cell? ⟨g, j, none⟩ = cs[j]? := by
  obtain ⟨mk, h⟩ := h
  unfold World.cell?
  rw [h]
  rfl
theorem Bk.of_cell {w : World} {a : Addr} {v : Value} (h : w.cell? a = some v) : ∃ T cs, Bk w a.block T cs := by
  unfold World.cell? at h
  split at h
  · rename_i c T mk hc
    exact ⟨T, c, mk, hc⟩
  · cases h
/-- v is the call's own slice of the bytes l; the block g is as it was. -/
structure StB (B : Nat) (W0 : World) (g : Nat) (T : TypeId) (cs : Array Value) (w : World) (v : Value) (l : List Int) : Prop where
  own : w.ownsRow B 5 1 v l.length (u8s l)
  bel : Below B W0 w
  buf : Bk w g T cs
  ty : T ≠ 5 ∨ g < B
  base : B ≤ w.heap.size
theorem StB.keep {B : Nat} {W0 w w' : World} {g : Nat} {T : TypeId} {cs : Array Value} {v : Value} {l : List Int} (h : StB B W0 g T cs w v l) (hb : Below w.heap.size w w') : StB B W0 g T cs w' v l := by
  refine ⟨⟨h.own.1, ?_⟩, h.bel.trans (hb.mono h.base), h.buf.keep hb, h.ty, Nat.le_trans h.base hb.size⟩
  rcases h.own.2 with h0 | ⟨g', cap, cur, e1, e2, e3, e4⟩
  · exact .inl h0
  · exact .inr ⟨g', cap, cur, e1, e2, (hb.block g' (Array.getElem?_eq_some_iff.1 e3).1).trans e3, e4⟩
theorem StB.form {B : Nat} {W0 w : World} {g : Nat} {T : TypeId} {cs : Array Value} {v : Value} {l : List Int} (h : StB B W0 g T cs w v l) : ∃ a c, v = .slice a l.length c ∧ ∀ k, v.ownBlock = some k → B ≤ k ∧ k < w.heap.size ∧ k ≠ g := by
  rcases h.own.2 with ⟨h0, h1⟩ | ⟨g', cap, cur, e1, e2, e3, e4⟩
  · rw [h0, h1]
    exact ⟨none, 0, rfl, fun k hk => by cases hk⟩
  · refine ⟨_, _, e1, fun k hk => ?_⟩
    rw [e1] at hk
    simp only [Value.ownBlock, Option.some.injEq] at hk
    subst hk
    refine ⟨e2, (Array.getElem?_eq_some_iff.1 e3).1, ?_⟩
    rintro rfl
    obtain ⟨mk, hbuf⟩ := h.buf
    have := hbuf.symm.trans e3
    injection this with this
    injection this with _ e5 _
    rcases h.ty with ht | ht
    · exact ht e5
    · omega
/-- An append of what lies from an address on. -/
theorem by_app {B : Nat} {W0 w : World} {g : Nat} {T : TypeId} {cs : Array Value} {v : Value} {l : List Int} (st : StB B W0 g T cs w v l) {ops : Array Oper} {rest : List Oper} {o : Oper} {a : Act} {Q : Exit → Act → World → Prop} (hgd : o.guard = none) (s x : Operand)
    (ho : o.op = .call { callee := .builtin .append, args := #[s, x], argTypes := #[157, 157] }) (K : List Int) (ad : Addr) (n c : Nat) (hs : a.eval s = v) (hx : a.eval x = .slice (some ad) n c) (hn : n = K.length)
    (hc : ∀ (j : Nat) (u : Value), (u8s K)[j]? = some u → w.cell? (ad.add j) = some u) (hl : l.length + K.length ≤ 1000000)
    (h : ∀ v' w', StB B W0 g T cs w' v' (l ++ K) → wpList Tryz.prog ops Q rest (a.put o.dst v') w') :
    wpList Tryz.prog ops Q (o :: rest) a w := by
  subst hn
  obtain ⟨i0, hi, hz0, hz1, hz2⟩ := info_parts infoY
  have hml : maxLen = 9223372036854775807 := rfl
  obtain ⟨_, _, _, hob⟩ := st.form
  refine wpList_append_own w hgd s x 157 ho B 5 i0 (.int .u8 0) 1 1 Tryz.underlying157 hi hz0 hz1 hz2 rfl (by decide) v l.length (u8s l) hs st.own ad K.length c (u8s K) hx (by rw [u8s_len, Nat.mul_one]) hc ?_ (by omega) (by omega) st.base ?_
  · intro u hu
    obtain ⟨p, _, rfl⟩ := List.mem_map.1 hu
    rfl
  · intro v' w' hown hgrow _
    refine h _ w' ⟨?_, ?_, ?_, st.ty, Nat.le_trans st.base hgrow.size⟩
    · unfold u8s
      rw [List.map_append, List.length_append]; exact hown
    · exact st.bel.grown hgrow st.base (fun k hk => (hob k hk).1)
    · unfold Bk
      rw [hgrow.block g st.buf.lt (fun e => (hob g e.symm).2.2 rfl)]
      exact st.buf
/-- An append of a few bytes that are written out. -/
theorem by_lit {B : Nat} {W0 w0 : World} {g : Nat} {T : TypeId} {cs : Array Value} {v : Value} {l : List Int} (st : StB B W0 g T cs w0 v l) {ops : Array Oper} {rest : List Oper} {o : Oper} {a : Act} {Q : Exit → Act → World → Prop} (hgd : o.guard = none) (s x : Operand)
    (ho : o.op = .call { callee := .builtin .append, args := #[s, x], argTypes := #[157, 157] }) (K : List Int) (w : World) (hw : w = w0.alloc (.cells (u8s K).toArray 5)) (n c : Nat) (hs : a.eval s = v) (hx : a.eval x = .slice (some ⟨w0.heap.size, 0, none⟩) n c) (hn : n = K.length)
    (hl : l.length + K.length ≤ 1000000)
    (h : ∀ v' w', StB B W0 g T cs w' v' (l ++ K) → wpList Tryz.prog ops Q rest (a.put o.dst v') w') :
    wpList Tryz.prog ops Q (o :: rest) a w := by
  have hb : Below w0.heap.size w0 w := by rw [hw]; exact bnew (Below.refl _ _)
  refine by_app (st.keep hb) hgd s x ho K ⟨w0.heap.size, 0, none⟩ n c hs hx hn (fun j u hj => ?_) hl h
  have xb : Bx w w0.heap.size 5 (u8s K).toArray := by rw [hw]; exact Bx.new _ _ _
  have := xb.all.1 j
  rw [show ((⟨w0.heap.size, 0, none⟩ : Addr).add j) = ⟨w0.heap.size, j, none⟩ by simp [Addr.add]; intro e; exact e.symm, this]
  simpa using hj

/-! ### What is written -/
def expT (e : Int) : List Int := (if e < 0 then [45] else [43]) ++ (if e.natAbs < 10 then [48, (e.natAbs : Int) + 48] else if e.natAbs < 100 then [(e.natAbs : Int) / 10 + 48, (e.natAbs : Int) % 10 + 48] else [(e.natAbs : Int) / 100 + 48, (e.natAbs : Int) / 10 % 10 + 48, (e.natAbs : Int) % 10 + 48])
/-- A number of the digits D, the point behind dp of them. -/
def fmtT (neg : Bool) (D : List Int) (dp : Int) : List Int :=
  (if neg then [45] else []) ++
  (if dp - 1 < -4 ∨ 6 ≤ dp - 1 then
    [D.getD 0 48] ++ ((if 1 < D.length then [46] ++ D.drop 1 else []) ++ ([101] ++ expT (if D.length = 0 then 0 else dp - 1)))
  else if 0 < dp then
    D.take dp.toNat ++ (List.replicate (dp.toNat - D.length) 48 ++ (if dp.toNat < D.length then [46] ++ D.drop dp.toNat else []))
  else [48] ++ (if 0 < (D.length : Int) - dp then [46] ++ (List.replicate (-dp).toNat 48 ++ D) else []))
end Go.Proofs.YticekgnmiaidjaaGreatDoor
