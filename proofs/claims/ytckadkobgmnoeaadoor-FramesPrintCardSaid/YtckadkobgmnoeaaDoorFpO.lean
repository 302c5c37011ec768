/- append of a whole slice; owned slices kept over stores to blocks of other types. -/
import Derived.Test.YtckadkobgmnoeaaDoorFpN
namespace Go.Proofs.YtckadkobgmnoeaaDoor
open Go.RowKit

theorem OutV.putT {w : World} {B b o : Nat} {T T' : TypeId} {v u : Value} {L : List Value} {cs : Array Value} (h : OutV B w T v L) (x : Bx w b T' cs) (hT : T' ≠ T) : OutV B (w.setCell ⟨b, o, none⟩ u) T v L := by
  refine ⟨h.1, ?_⟩
  rcases h.2 with h0 | ⟨g, cap, cur, e1, e2, e3, e4⟩
  · exact .inl h0
  · have hne : g ≠ b := by
      rintro rfl
      unfold Bx at x
      rw [e3] at x
      simp only [Option.some.injEq, Obj.cells.injEq] at x
      exact hT x.2.1.symm
    exact .inr ⟨g, cap, cur, e1, e2, by rw [Below.heap_setCell _ _ _ _ hne]; exact e3, e4⟩
theorem OutV.drN {w : World} {B : Nat} {T : TypeId} {v : Value} {L : List Value} (h : OutV B w T v L) (n : Nat) : OutV B (w.drewN n) T v L := h
theorem OutV.al {w : World} {B : Nat} {T : TypeId} {v : Value} {L : List Value} (h : OutV B w T v L) (ob : Obj) : OutV B (w.alloc ob) T v L := h.below below_al

/-- append of a slice: the owned slice grows; blocks of other types stay. -/
theorem ov_appendN {B B2 : Nat} {w : World} {T TS : TypeId} {z : Value} {bytes : Nat} (hinfo : (Tryd.prog.info? T).map (fun i => (i.zero, i.size, i.bytes)) = some (some z, 1, bytes)) (hu : Tryd.prog.underlying TS = some (.slice T)) (hz1 : z.cells.size = 1) {L M : List Value} {v vy : Value} {ops : Array Oper} {rest : List Oper} {o : Oper} {a : Act} {Q : Exit → Act → World → Prop} (hgd : o.guard = none) (s y : Operand)
    (ho : o.op = .call { callee := .builtin .append, args := #[s, y], argTypes := #[TS, TS] }) (hs : a.eval s = v) (hx : a.eval y = vy) (hm : OutV B w T v L) (hM : OutV B2 w T vy M) (hne : M ≠ [])
    (hx1 : ∀ u ∈ M, u.oneCell' = true) (hl : L.length + M.length ≤ 9223372036854775807) (hl2 : (L.length + M.length) * bytes ≤ 140737488355328) (hB : B ≤ w.heap.size)
    (h : ∀ v' w', OutV B w' T v' (L ++ M) → (∀ B0 W0, B0 ≤ B → Below B0 W0 w → Below B0 W0 w') → (∀ g' T' cs, T' ≠ T → Bx w g' T' cs → Bx w' g' T' cs) → wpList Tryd.prog ops Q rest (a.put o.dst v') w') :
    wpList Tryd.prog ops Q (o :: rest) a w := by
  obtain ⟨i0, hi, hz0, hzz, hz2⟩ := info_parts hinfo
  have hml : maxLen = 9223372036854775807 := rfl
  rcases hM.cells with ⟨h0, _⟩ | ⟨g, c, rfl, _, _, hc⟩
  · exact absurd h0 hne
  refine wpList_append_own w hgd s y TS ho B T i0 z 1 bytes hu hi hz0 hzz hz2 hz1 (by decide) v L.length L hs hm ⟨g, 0, none⟩ M.length c M hx (by omega) ?_ hx1 (by omega) hl2 hB ?_
  · intro j u hj
    rw [show ((⟨g, 0, none⟩ : Addr).add j) = ⟨g, j, none⟩ by simp [Addr.add]; intro e; exact e.symm]
    exact hc j trivial u hj
  · intro v' w' hown hgrow _
    refine h v' w' ?_ (fun B0 W0 hB0 hb => ?_) (fun g' T' cs hT x => ?_)
    · unfold OutV
      rw [List.length_append]
      exact hown
    · refine hb.grown hgrow (by omega) (fun k hk => ?_)
      rcases hm.2 with ⟨h0, _⟩ | ⟨g1, cap1, cur, e1, e2, e3, _⟩
      · rw [h0] at hk; cases hk
      · rw [e1] at hk
        simp only [Value.ownBlock, Option.some.injEq] at hk
        omega
    · unfold Bx at *
      rw [hgrow.block g' (Array.getElem?_eq_some_iff.1 x).1 (fun hk => ?_)]; exact x
      rcases hm.2 with ⟨h0, _⟩ | ⟨g1, cap1, cur, e1, e2, e3, _⟩
      · rw [h0] at hk; cases hk
      · rw [e1] at hk
        simp only [Value.ownBlock, Option.some.injEq] at hk
        have hk' : g1 = g' := hk.symm
        rw [hk'] at e3
        rw [e3] at x
        simp only [Option.some.injEq, Obj.cells.injEq] at x
        exact hT x.2.1.symm
def PO (r : PR) (W : World) (e : Ending) (w' : World) : Prop := ∃ v, e = .returned (.tuple #[.agg #[.int .i64 r.x, .int .i64 r.y, .int .i64 r.w, .int .i64 r.h, v], .int .i64 r.k, .int .i64 r.e]) ∧ OutV W.heap.size w' 39 v (r.vs.map fun b => .float .f32 b) ∧ Below W.heap.size W w'
theorem emp_iff {T : ByteArray} : T.toList.isEmpty = true ↔ T = noB := by
  rw [Lib.toList_data, List.isEmpty_iff]
  constructor
  · intro h; rw [← bytes_list T, h]; rfl
  · rintro rfl; rfl
theorem check_ok {x y w h : Int} (hc : checkRegion x y w h = 0) : 1 ≤ w ∧ w ≤ 256 ∧ 1 ≤ h ∧ h ≤ 256 := by
  unfold checkRegion at hc
  split at hc
  · simp at hc
  · omega
theorem bput5 {B b : Nat} {a w : World} {u0 u1 u2 u3 u4 : Value} (hb : B ≤ b) (h : Below B a w) : Below B a (((((w.setCell ⟨b, 0, none⟩ u0).setCell ⟨b, 1, none⟩ u1).setCell ⟨b, 2, none⟩ u2).setCell ⟨b, 3, none⟩ u3).setCell ⟨b, 4, none⟩ u4) := Below.set' hb (Below.set' hb (Below.set' hb (Below.set' hb (Below.set' hb h))))
theorem OutV.put5 {w : World} {B b : Nat} {T T' : TypeId} {v x0 x1 x2 x3 x4 u0 u1 u2 u3 u4 : Value} {L : List Value} (h : OutV B w T v L) (x : Bx w b T' #[x0, x1, x2, x3, x4]) (hT : T' ≠ T) : OutV B (((((w.setCell ⟨b, 0, none⟩ u0).setCell ⟨b, 1, none⟩ u1).setCell ⟨b, 2, none⟩ u2).setCell ⟨b, 3, none⟩ u3).setCell ⟨b, 4, none⟩ u4) T v L :=
  OutV.putT (OutV.putT (OutV.putT (OutV.putT (OutV.putT h x hT) (x.set 0 u0) hT) ((x.set 0 u0).set 1 u1) hT) (((x.set 0 u0).set 1 u1).set 2 u2) hT) ((((x.set 0 u0).set 1 u1).set 2 u2).set 3 u3) hT
theorem frame_put {w : World} {g : Nat} {T : TypeId} {a b c d f : Value} (x : Bx w g T #[a, b, c, d, f]) (a' b' c' d' f' : Value) : Bx (((((w.setCell ⟨g, 0, none⟩ a').setCell ⟨g, 1, none⟩ b').setCell ⟨g, 2, none⟩ c').setCell ⟨g, 3, none⟩ d').setCell ⟨g, 4, none⟩ f') g T #[a', b', c', d', f'] := by
  have := ((((x.set 0 a').set 1 b').set 2 c').set 3 d').set 4 f'
  simpa using this

end Go.Proofs.YtckadkobgmnoeaaDoor
