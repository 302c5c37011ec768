/- Ranges that the call gathers: appended, the last one made longer. -/
import Derived.Test.YtemlabmmafcapaaGreatDoorDaK
namespace Go.Proofs.YtemlabmmafcapaaGreatDoor
open Go.RowKit

def rgC (L : List (Int × Int)) : List Value := L.flatMap fun r => [.int .i64 r.1, .int .i64 r.2]
theorem rgC_append (L K : List (Int × Int)) : rgC (L ++ K) = rgC L ++ rgC K := by unfold rgC; rw [List.flatMap_append]
theorem rgC_len (L : List (Int × Int)) : (rgC L).length = L.length * 2 := by
  induction L with
  | nil => rfl
  | cons a r ih => show (rgC r).length + 1 + 1 = _; rw [ih, List.length_cons]; omega
theorem rgC_get {L : List (Int × Int)} {i : Nat} (h : i < L.length) : (rgC L)[i * 2 + 1]? = some (.int .i64 (L.getD i default).2) := by
  induction L generalizing i with
  | nil => simp at h
  | cons a r ih =>
    cases i with
    | zero => rfl
    | succ i =>
      have := ih (i := i) (by simpa using h)
      rw [show (i + 1) * 2 + 1 = i * 2 + 1 + 1 + 1 by omega]
      show (rgC r)[i * 2 + 1]? = _
      rw [this]; rfl
theorem rgC_set {L : List (Int × Int)} {i : Nat} (h : i < L.length) (z : Int) : (rgC L).set (i * 2 + 1) (.int .i64 z) = rgC (L.set i ((L.getD i default).1, z)) := by
  induction L generalizing i with
  | nil => simp at h
  | cons a r ih =>
    cases i with
    | zero => rfl
    | succ i =>
      have := ih (i := i) (by simpa using h)
      rw [show (i + 1) * 2 + 1 = i * 2 + 1 + 1 + 1 by omega]
      show Value.int .i64 a.1 :: Value.int .i64 a.2 :: (rgC r).set (i * 2 + 1) _ = _
      rw [this]; rfl
theorem infoRg : (Tryz.prog.info? 81).map (fun i => (i.zero, i.size, i.bytes)) = some (some (.agg #[.int .i64 0, .int .i64 0]), 2, 16) := by kernel_rfl
/-- v is a slice of the call's own that reads as the ranges L. -/
def OutR (B : Nat) (w : World) (v : Value) (L : List (Int × Int)) : Prop := w.ownsRow B 81 2 v L.length (rgC L)
theorem OutR.below {B : Nat} {w w' : World} {v : Value} {L : List (Int × Int)} (h : OutR B w v L) (hb : Below w.heap.size w w') : OutR B w' v L := own_below h hb
theorem OutR.form {B : Nat} {w : World} {v : Value} {L : List (Int × Int)} (h : OutR B w v L) : (L = [] ∧ v = .slice none 0 0) ∨ ∃ g cap, v = .slice (some ⟨g, 0, none⟩) L.length cap ∧ B ≤ g ∧ g < w.heap.size ∧ OutR B w (.slice (some ⟨g, 0, none⟩) L.length cap) L := by
  rcases h.2 with ⟨h0, h1⟩ | ⟨g, cap, cur, e1, e2, e3, _⟩
  · left; exact ⟨List.eq_nil_of_length_eq_zero h1, h0⟩
  · subst e1; exact .inr ⟨g, cap, rfl, e2, (Array.getElem?_eq_some_iff.1 e3).1, h⟩
theorem OutR.nil (B : Nat) (w : World) : OutR B w (.slice none 0 0) [] := World.ownsRow_nil _ _ _ _
theorem rg_append {B : Nat} {w : World} {L : List (Int × Int)} {m te : Int} {v : Value} {ops : Array Oper} {rest : List Oper} {o : Oper} {a : Act} {Q : Exit → Act → World → Prop} (hgd : o.guard = none) (s x : Operand)
    (ho : o.op = .call { callee := .builtin .append, args := #[s, x], argTypes := #[38, 38] }) (hs : a.eval s = v) (g c : Nat) (hx : a.eval x = .slice (some ⟨g, 0, none⟩) 1 c) (hm : OutR B w v L)
    (hc : Bx w g 81 #[.int .i64 m, .int .i64 te]) (hl : L.length ≤ 1000000) (hB : B ≤ w.heap.size)
    (h : ∀ v' w', OutR B w' v' (L ++ [(m, te)]) → (∀ B0 W0, B0 ≤ B → Below B0 W0 w → Below B0 W0 w') → wpList Tryz.prog ops Q rest (a.put o.dst v') w') :
    wpList Tryz.prog ops Q (o :: rest) a w := by
  obtain ⟨i0, hi, hz0, hz1, hz2⟩ := info_parts infoRg
  have hml : maxLen = 9223372036854775807 := rfl
  refine wpList_append_own w hgd s x 38 ho B 81 i0 (.agg #[.int .i64 0, .int .i64 0]) 2 16 Tryz.underlying38 hi hz0 hz1 hz2 rfl (by decide) v L.length (rgC L) hs hm ⟨g, 0, none⟩ 1 c [.int .i64 m, .int .i64 te] hx rfl ?_ ?_ (by omega) (by omega) hB ?_
  · intro j u hj
    have := hc.all.1 j
    rw [show ((⟨g, 0, none⟩ : Addr).add j) = ⟨g, j, none⟩ by simp [Addr.add]; intro e; exact e.symm, this]
    simpa using hj
  · intro u hu
    simp at hu
    rcases hu with rfl | rfl <;> rfl
  · intro v' w' hown hgrow _
    refine h v' w' ?_ (fun B0 W0 hB0 hb => ?_)
    · unfold OutR
      rw [rgC_append, List.length_append]
      exact hown
    · refine hb.grown hgrow (by omega) (fun k hk => ?_)
      rcases hm.2 with ⟨h0, _⟩ | ⟨g1, cap1, cur, e1, e2, e3, _⟩
      · rw [h0] at hk; cases hk
      · rw [e1] at hk
        simp only [Value.ownBlock, Option.some.injEq] at hk
        omega
theorem own_base {w : World} {B g n cap s : Nat} {e : TypeId} {xs : List Value} (h : w.ownsRow B e s (.slice (some ⟨g, 0, none⟩) n cap) n xs) : w.ownsRow g e s (.slice (some ⟨g, 0, none⟩) n cap) n xs := by
  refine ⟨h.1, ?_⟩
  rcases h.2 with ⟨h0, _⟩ | ⟨g', cap', cur, e1, e2, e3⟩
  · cases h0
  · refine .inr ⟨g', cap', cur, e1, ?_, e3⟩
    injection e1 with e4
    injection e4 with e4
    injection e4 with e4
    omega
theorem Mk.own {B : Nat} {w : World} {g n cap : Nat} {zs : List Int} {K : List Nat} (h : Mk B w (.slice (some ⟨g, 0, none⟩) n cap) zs K) : w.ownsRow g 3 1 (.slice (some ⟨g, 0, none⟩) n cap) n (zs.map (Value.int .i64)) ∧ B ≤ g ∧ g < w.heap.size ∧ n = zs.length ∧ ∀ k, k ∈ K → g ≠ k := by
  obtain ⟨g', cap', e1, h1, h2, h3, h4⟩ := h
  injection e1 with e4 e5 e6
  injection e4 with e4
  injection e4 with e4
  subst e4; subst e5; subst e6
  exact ⟨own_base h1, h2, h3, rfl, h4⟩
end Go.Proofs.YtemlabmmafcapaaGreatDoor
