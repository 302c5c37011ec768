/- Rows of structs that grow, told cell by cell; what a call with a footprint has left as it was. -/
import Derived.Test.YtilninaminaadaaGreatDoorMem
import Derived.Deep.AppendLies
import Derived.OwnWalk
namespace Go.Proofs.YtilninaminaadaaGreatDoor
open Go.RowKit

/-- v is a slice of n elements of s cells each, at a row of its own (or nil, and n = 0): cell j of element k is c k j. -/
def RowN (w : World) (T : TypeId) (s : Nat) (v : Value) (n : Nat) (c : Nat → Nat → Value) : Prop :=
  (v = .slice none 0 0 ∧ n = 0) ∨ ∃ g cap cur, v = .slice (some ⟨g, 0, none⟩) n cap ∧ w.heap[g]? = some (.cells cur T (0, 0)) ∧ n ≤ cap ∧ cap ≤ maxLen ∧ cur.size = cap * s ∧ ∀ k j, k < n → j < s → cur[k * s + j]? = some (c k j)
theorem RowN.nil (w : World) (T : TypeId) (s : Nat) (c : Nat → Nat → Value) : RowN w T s (.slice none 0 0) 0 c := .inl ⟨rfl, rfl⟩
theorem RowN.lift {w w' : World} {T : TypeId} {s n : Nat} {v : Value} {c : Nat → Nat → Value} (h : RowN w T s v n c) (hk : ∀ g, v.ownBlock = some g → g < w.heap.size → w'.heap[g]? = w.heap[g]?) : RowN w' T s v n c := by
  rcases h with h | ⟨g, cap, cur, e1, e2, e3⟩
  · exact .inl h
  · exact .inr ⟨g, cap, cur, e1, (hk g (by rw [e1]; rfl) (Array.getElem?_eq_some_iff.1 e2).1).trans e2, e3⟩
theorem RowN.keep {w w' : World} {T : TypeId} {s n : Nat} {v : Value} {c : Nat → Nat → Value} (h : RowN w T s v n c) (hb : Below w.heap.size w w') : RowN w' T s v n c := h.lift fun g _ hg => hb.block g hg
theorem RowN.congr {w : World} {T : TypeId} {s n : Nat} {v : Value} {c c' : Nat → Nat → Value} (h : RowN w T s v n c) (he : ∀ k j, k < n → j < s → c' k j = c k j) : RowN w T s v n c' := by
  rcases h with h | ⟨g, cap, cur, e1, e2, e3, e4, e5, e6⟩
  · exact .inl h
  · exact .inr ⟨g, cap, cur, e1, e2, e3, e4, e5, fun k j hk hj => by rw [he k j hk hj]; exact e6 k j hk hj⟩
theorem RowN.base {w : World} {T : TypeId} {s n : Nat} {v : Value} {c : Nat → Nat → Value} (h : RowN w T s v n c) : ∀ g, v.ownBlock = some g → g < w.heap.size := by
  intro g hg
  rcases h with ⟨rfl, _⟩ | ⟨g', cap, cur, rfl, e2, _⟩
  · cases hg
  · simp only [Value.ownBlock, Option.some.injEq] at hg
    have := (Array.getElem?_eq_some_iff.1 e2).1
    omega
theorem RowN.typed {w : World} {T : TypeId} {s n : Nat} {v : Value} {c : Nat → Nat → Value} (h : RowN w T s v n c) : ∀ g, v.ownBlock = some g → ∃ cur, w.heap[g]? = some (.cells cur T (0, 0)) := by
  intro g hg
  rcases h with ⟨rfl, _⟩ | ⟨g', cap, cur, rfl, e2, _⟩
  · cases hg
  · simp only [Value.ownBlock, Option.some.injEq] at hg
    subst hg
    exact ⟨cur, e2⟩
theorem RowN.form {w : World} {T : TypeId} {s n : Nat} {v : Value} {c : Nat → Nat → Value} (h : RowN w T s v n c) : ∃ a cap, v = .slice a n cap ∧ n ≤ cap ∧ cap ≤ maxLen := by
  rcases h with ⟨rfl, rfl⟩ | ⟨g', cap, cur, rfl, _, e3, e4, _⟩
  · exact ⟨none, 0, rfl, Nat.le_refl _, by unfold maxLen; omega⟩
  · exact ⟨_, _, rfl, e3, e4⟩
theorem RowN.open {w : World} {T : TypeId} {s n : Nat} {v : Value} {c : Nat → Nat → Value} (h : RowN w T s v n c) (hn : 0 < n) : ∃ g cap, v = .slice (some ⟨g, 0, none⟩) n cap ∧ g < w.heap.size ∧ n ≤ cap ∧ cap ≤ maxLen ∧
    (∀ k j, k < n → j < s → w.cell? ⟨g, k * s + j, none⟩ = some (c k j)) ∧ ∀ o, w.frozen? ⟨g, o, none⟩ = false := by
  rcases h with ⟨_, h0⟩ | ⟨g, cap, cur, e1, e2, e3, e4, e5, e6⟩
  · omega
  · exact ⟨g, cap, e1, (Array.getElem?_eq_some_iff.1 e2).1, e3, e4, fun k j hk hj => by rw [cell_of_row w g _ cur _ (0, 0) e2]; exact e6 k j hk hj, fun o => frozen_of_row w g o cur _ e2⟩
/-- A store into one cell. -/
theorem RowN.set {w : World} {T : TypeId} {s n g cap : Nat} {c : Nat → Nat → Value} (h : RowN w T s (.slice (some ⟨g, 0, none⟩) n cap) n c) (k j : Nat) (hk : k < n) (hj : j < s) (u : Value) :
    RowN (w.setCell ⟨g, k * s + j, none⟩ u) T s (.slice (some ⟨g, 0, none⟩) n cap) n (fun k' j' => if k' = k ∧ j' = j then u else c k' j') := by
  rcases h with ⟨h0, _⟩ | ⟨g', cap', cur, e1, e2, e3, e4, e5, e6⟩
  · cases h0
  · cases e1
    refine .inr ⟨g, cap, cur.setIfInBounds (k * s + j) u, rfl, heap_setCell_same w g _ cur _ _ e2, e3, e4, by simpa using e5, fun k' j' hk' hj' => ?_⟩
    have hlt : k * s + j < cur.size := (Array.getElem?_eq_some_iff.1 (e6 k j hk hj)).1
    by_cases he : k' = k ∧ j' = j
    · obtain ⟨rfl, rfl⟩ := he
      simp only [and_self, if_true]
      rw [Array.getElem?_setIfInBounds_self_of_lt hlt]
    · have hne : k' * s + j' ≠ k * s + j := by
        intro hh
        have h1 : k' = k := by
          have a1 : (k' * s + j') / s = k' := by rw [Nat.mul_comm, Nat.mul_add_div (by omega), Nat.div_eq_of_lt hj']; omega
          have a2 : (k * s + j) / s = k := by rw [Nat.mul_comm, Nat.mul_add_div (by omega), Nat.div_eq_of_lt hj]; omega
          rw [← a1, ← a2, hh]
        subst h1
        exact he ⟨rfl, by omega⟩
      show _ = some (if k' = k ∧ j' = j then u else c k' j')
      rw [if_neg he, Array.getElem?_setIfInBounds_ne (by omega)]
      exact e6 k' j' hk' hj'
/-- append of one element that lies in a block of its own. -/
theorem rowN_append {w : World} {T TS : TypeId} {s n bytes : Nat} {z : Value} {v : Value} {c : Nat → Nat → Value} {news : List Value} {ops : Array Oper} {rest : List Oper} {o : Oper} {a : Act} {Q : Exit → Act → World → Prop}
    (hinfo : (Tryz.prog.info? T).map (fun i => (i.zero, i.size, i.bytes)) = some (some z, s, bytes)) (hu : Tryz.prog.underlying TS = some (.slice T)) (hzs : z.cells.size = s) (hsz : 0 < s)
    (hgd : o.guard = none) (x1 x2 : Operand) (ho : o.op = .call { callee := .builtin .append, args := #[x1, x2], argTypes := #[TS, TS] }) (hs : a.eval x1 = v) (g : Nat) (hx : a.eval x2 = .slice (some ⟨g, 0, none⟩) 1 1)
    (hm : RowN w T s v n c) (hc : Bx w g T news.toArray) (hl : news.length = s) (h1 : ∀ u ∈ news, u.oneCell' = true) (hby : (n + 1) * bytes ≤ 140737488355328) (hn : n + 1 ≤ 140737488355328)
    (h : ∀ g' cap' w', RowN w' T s (.slice (some ⟨g', 0, none⟩) (n + 1) cap') (n + 1) (fun k j => if k < n then c k j else news.getD j undef) → w.grownBy w' v.ownBlock → (v.ownBlock = some g' ∨ g' = w.heap.size) → g' < w'.heap.size → wpList Tryz.prog ops Q rest (a.put o.dst (.slice (some ⟨g', 0, none⟩) (n + 1) cap')) w') :
    wpList Tryz.prog ops Q (o :: rest) a w := by
  obtain ⟨i0, hi, hz0, hz1, hz2⟩ := info_parts hinfo
  have hml : maxLen = 9223372036854775807 := rfl
  have hown : ∃ xs, w.ownsRow 0 T s v n xs ∧ ∀ k j, k < n → j < s → xs[k * s + j]? = some (c k j) := by
    rcases hm with ⟨rfl, rfl⟩ | ⟨g, cap, cur, rfl, e2, e3, e4, e5, e6⟩
    · exact ⟨[], World.ownsRow_nil _ _ _ _, fun k j hk => by omega⟩
    · have hle : n * s ≤ cur.size := by rw [e5]; exact Nat.mul_le_mul_right _ e3
      refine ⟨cur.toList.take (n * s), ⟨by rw [List.length_take, Array.length_toList]; omega, .inr ⟨g, cap, cur, rfl, Nat.zero_le _, e2, e3, e4, e5, rfl⟩⟩, fun k j hk hj => ?_⟩
      have hlt : k * s + j < n * s := by
        have : (k + 1) * s ≤ n * s := Nat.mul_le_mul_right _ hk
        rw [Nat.succ_mul] at this
        omega
      rw [List.getElem?_take, if_pos hlt, Array.getElem?_toList]
      exact e6 k j hk hj
  obtain ⟨xs, hown, hxs⟩ := hown
  refine wpList_append_lies w hgd x1 x2 TS ho 0 T i0 z s bytes hu hi hz0 hz1 hz2 hzs hsz _ n xs hs hown ⟨g, 0, none⟩ 1 1 news hx (by rw [hl, Nat.one_mul]) ?_ h1 (by omega) (by omega) hby (by omega) _ rfl ?_
  · intro j u hj
    have := hc.all.1 j
    rw [show ((⟨g, 0, none⟩ : Addr).add j) = ⟨g, j, none⟩ by simp [Addr.add]; intro e; exact e.symm, this]
    simpa using hj
  · intro g' cap' w' hown hgrow hat hlt
    refine h g' cap' w' ?_ hgrow hat hlt
    rcases hown.2 with ⟨h0, _⟩ | ⟨g2, cap2, cur, e1, _, e2, e3, e4, e5, e6⟩
    · cases h0
    · cases e1
      have hlen := hown.1
      rw [List.length_append, hl] at hlen
      refine .inr ⟨g', cap', cur, rfl, e2, e3, e4, e5, fun k j hk hj => ?_⟩
      have hkl : k * s + j < (n + 1) * s := by
        have : (k + 1) * s ≤ (n + 1) * s := Nat.mul_le_mul_right _ hk
        rw [Nat.succ_mul] at this
        omega
      have hxl : xs.length = n * s := by rw [Nat.succ_mul] at hlen; omega
      have h2 : (cur.toList.take ((n + 1) * s))[k * s + j]? = (xs ++ news)[k * s + j]? := by rw [e6]
      rw [List.getElem?_take, if_pos hkl, Array.getElem?_toList] at h2
      rw [h2]
      show _ = some (if k < n then c k j else news.getD j undef)
      by_cases hkn : k < n
      · have hlt2 : k * s + j < n * s := by
          have : (k + 1) * s ≤ n * s := Nat.mul_le_mul_right _ hkn
          rw [Nat.succ_mul] at this
          omega
        rw [List.getElem?_append_left (by omega), if_pos hkn]
        exact hxs k j hkn hj
      · obtain rfl : k = n := by omega
        rw [List.getElem?_append_right (by omega), hxl, if_neg hkn, Nat.add_sub_cancel_left]
        have hj2 : j < news.length := by omega
        simp [List.getD, hj2]

/-- The same at a step of a region that draws its order. -/
theorem rowN_step {w : World} {T TS : TypeId} {s n bytes : Nat} {z : Value} {v : Value} {c : Nat → Nat → Value} {news : List Value} {ops : Array Oper} {o : Oper} {a : Act} {K : Act → World → Prop} {Q : Exit → Act → World → Prop} {E : Prop}
    (hinfo : (Tryz.prog.info? T).map (fun i => (i.zero, i.size, i.bytes)) = some (some z, s, bytes)) (hu : Tryz.prog.underlying TS = some (.slice T)) (hzs : z.cells.size = s) (hsz : 0 < s)
    (hgd : o.guard = none) (x1 x2 : Operand) (ho : o.op = .call { callee := .builtin .append, args := #[x1, x2], argTypes := #[TS, TS] }) (hs : a.eval x1 = v) (g : Nat) (hx : a.eval x2 = .slice (some ⟨g, 0, none⟩) 1 1)
    (hm : RowN w T s v n c) (hc : Bx w g T news.toArray) (hl : news.length = s) (h1 : ∀ u ∈ news, u.oneCell' = true) (hby : (n + 1) * bytes ≤ 140737488355328) (hn : n + 1 ≤ 140737488355328)
    (h : ∀ g' cap' w', RowN w' T s (.slice (some ⟨g', 0, none⟩) (n + 1) cap') (n + 1) (fun k j => if k < n then c k j else news.getD j undef) → w.grownBy w' v.ownBlock → (v.ownBlock = some g' ∨ g' = w.heap.size) → g' < w'.heap.size → K (a.put o.dst (.slice (some ⟨g', 0, none⟩) (n + 1) cap')) w') :
    if Region.wanted o (yielded ops a.tmps) = true then Oper.wp Tryz.prog o a w K Q else E := by
  obtain ⟨i0, hi, hz0, hz1, hz2⟩ := info_parts hinfo
  have hml : maxLen = 9223372036854775807 := rfl
  have hown : ∃ xs, w.ownsRow 0 T s v n xs ∧ ∀ k j, k < n → j < s → xs[k * s + j]? = some (c k j) := by
    rcases hm with ⟨rfl, rfl⟩ | ⟨g, cap, cur, rfl, e2, e3, e4, e5, e6⟩
    · exact ⟨[], World.ownsRow_nil _ _ _ _, fun k j hk => by omega⟩
    · have hle : n * s ≤ cur.size := by rw [e5]; exact Nat.mul_le_mul_right _ e3
      refine ⟨cur.toList.take (n * s), ⟨by rw [List.length_take, Array.length_toList]; omega, .inr ⟨g, cap, cur, rfl, Nat.zero_le _, e2, e3, e4, e5, rfl⟩⟩, fun k j hk hj => ?_⟩
      have hlt : k * s + j < n * s := by
        have : (k + 1) * s ≤ n * s := Nat.mul_le_mul_right _ hk
        rw [Nat.succ_mul] at this
        omega
      rw [List.getElem?_take, if_pos hlt, Array.getElem?_toList]
      exact e6 k j hk hj
  obtain ⟨xs, hown, hxs⟩ := hown
  refine step_append_lies w hgd x1 x2 TS ho 0 T i0 z s bytes hu hi hz0 hz1 hz2 hzs hsz _ n xs hs hown ⟨g, 0, none⟩ 1 1 news hx (by rw [hl, Nat.one_mul]) ?_ h1 (by omega) (by omega) hby (by omega) _ rfl ?_
  · intro j u hj
    have := hc.all.1 j
    rw [show ((⟨g, 0, none⟩ : Addr).add j) = ⟨g, j, none⟩ by simp [Addr.add]; intro e; exact e.symm, this]
    simpa using hj
  · intro g' cap' w' hown hgrow hat hlt
    refine h g' cap' w' ?_ hgrow hat hlt
    rcases hown.2 with ⟨h0, _⟩ | ⟨g2, cap2, cur, e1, _, e2, e3, e4, e5, e6⟩
    · cases h0
    · cases e1
      have hlen := hown.1
      rw [List.length_append, hl] at hlen
      refine .inr ⟨g', cap', cur, rfl, e2, e3, e4, e5, fun k j hk hj => ?_⟩
      have hkl : k * s + j < (n + 1) * s := by
        have : (k + 1) * s ≤ (n + 1) * s := Nat.mul_le_mul_right _ hk
        rw [Nat.succ_mul] at this
        omega
      have hxl : xs.length = n * s := by rw [Nat.succ_mul] at hlen; omega
      have h2 : (cur.toList.take ((n + 1) * s))[k * s + j]? = (xs ++ news)[k * s + j]? := by rw [e6]
      rw [List.getElem?_take, if_pos hkl, Array.getElem?_toList] at h2
      rw [h2]
      show _ = some (if k < n then c k j else news.getD j undef)
      by_cases hkn : k < n
      · have hlt2 : k * s + j < n * s := by
          have : (k + 1) * s ≤ n * s := Nat.mul_le_mul_right _ hkn
          rw [Nat.succ_mul] at this
          omega
        rw [List.getElem?_append_left (by omega), if_pos hkn]
        exact hxs k j hkn hj
      · obtain rfl : k = n := by omega
        rw [List.getElem?_append_right (by omega), hxl, if_neg hkn, Nat.add_sub_cancel_left]
        have hj2 : j < news.length := by omega
        simp [List.getD, hj2]

/-- The same at the operation. -/
theorem rowN_wp {w : World} {T TS : TypeId} {s n bytes : Nat} {z : Value} {v : Value} {c : Nat → Nat → Value} {news : List Value} {o : Oper} {a : Act} {K : Act → World → Prop} {Q : Exit → Act → World → Prop}
    (hinfo : (Tryz.prog.info? T).map (fun i => (i.zero, i.size, i.bytes)) = some (some z, s, bytes)) (hu : Tryz.prog.underlying TS = some (.slice T)) (hzs : z.cells.size = s) (hsz : 0 < s)
    (x1 x2 : Operand) (ho : o.op = .call { callee := .builtin .append, args := #[x1, x2], argTypes := #[TS, TS] }) (hs : a.eval x1 = v) (g : Nat) (hx : a.eval x2 = .slice (some ⟨g, 0, none⟩) 1 1)
    (hm : RowN w T s v n c) (hc : Bx w g T news.toArray) (hl : news.length = s) (h1 : ∀ u ∈ news, u.oneCell' = true) (hby : (n + 1) * bytes ≤ 140737488355328) (hn : n + 1 ≤ 140737488355328)
    (h : ∀ g' cap' w', RowN w' T s (.slice (some ⟨g', 0, none⟩) (n + 1) cap') (n + 1) (fun k j => if k < n then c k j else news.getD j undef) → w.grownBy w' v.ownBlock → (v.ownBlock = some g' ∨ g' = w.heap.size) → g' < w'.heap.size → K (a.put o.dst (.slice (some ⟨g', 0, none⟩) (n + 1) cap')) w') :
    Oper.wp Tryz.prog o a w K Q := by
  obtain ⟨i0, hi, hz0, hz1, hz2⟩ := info_parts hinfo
  have hml : maxLen = 9223372036854775807 := rfl
  have hown : ∃ xs, w.ownsRow 0 T s v n xs ∧ ∀ k j, k < n → j < s → xs[k * s + j]? = some (c k j) := by
    rcases hm with ⟨rfl, rfl⟩ | ⟨g, cap, cur, rfl, e2, e3, e4, e5, e6⟩
    · exact ⟨[], World.ownsRow_nil _ _ _ _, fun k j hk => by omega⟩
    · have hle : n * s ≤ cur.size := by rw [e5]; exact Nat.mul_le_mul_right _ e3
      refine ⟨cur.toList.take (n * s), ⟨by rw [List.length_take, Array.length_toList]; omega, .inr ⟨g, cap, cur, rfl, Nat.zero_le _, e2, e3, e4, e5, rfl⟩⟩, fun k j hk hj => ?_⟩
      have hlt : k * s + j < n * s := by
        have : (k + 1) * s ≤ n * s := Nat.mul_le_mul_right _ hk
        rw [Nat.succ_mul] at this
        omega
      rw [List.getElem?_take, if_pos hlt, Array.getElem?_toList]
      exact e6 k j hk hj
  obtain ⟨xs, hown, hxs⟩ := hown
  refine wp_append_lies w x1 x2 TS ho 0 T i0 z s bytes hu hi hz0 hz1 hz2 hzs hsz _ n xs hs hown ⟨g, 0, none⟩ 1 1 news hx (by rw [hl, Nat.one_mul]) ?_ h1 (by omega) (by omega) hby (by omega) _ rfl ?_
  · intro j u hj
    have := hc.all.1 j
    rw [show ((⟨g, 0, none⟩ : Addr).add j) = ⟨g, j, none⟩ by simp [Addr.add]; intro e; exact e.symm, this]
    simpa using hj
  · intro g' cap' w' hown hgrow hat hlt
    refine h g' cap' w' ?_ hgrow hat hlt
    rcases hown.2 with ⟨h0, _⟩ | ⟨g2, cap2, cur, e1, _, e2, e3, e4, e5, e6⟩
    · cases h0
    · cases e1
      have hlen := hown.1
      rw [List.length_append, hl] at hlen
      refine .inr ⟨g', cap', cur, rfl, e2, e3, e4, e5, fun k j hk hj => ?_⟩
      have hkl : k * s + j < (n + 1) * s := by
        have : (k + 1) * s ≤ (n + 1) * s := Nat.mul_le_mul_right _ hk
        rw [Nat.succ_mul] at this
        omega
      have hxl : xs.length = n * s := by rw [Nat.succ_mul] at hlen; omega
      have h2 : (cur.toList.take ((n + 1) * s))[k * s + j]? = (xs ++ news)[k * s + j]? := by rw [e6]
      rw [List.getElem?_take, if_pos hkl, Array.getElem?_toList] at h2
      rw [h2]
      show _ = some (if k < n then c k j else news.getD j undef)
      by_cases hkn : k < n
      · have hlt2 : k * s + j < n * s := by
          have : (k + 1) * s ≤ n * s := Nat.mul_le_mul_right _ hkn
          rw [Nat.succ_mul] at this
          omega
        rw [List.getElem?_append_left (by omega), if_pos hkn]
        exact hxs k j hkn hj
      · obtain rfl : k = n := by omega
        rw [List.getElem?_append_right (by omega), hxl, if_neg hkn, Nat.add_sub_cancel_left]
        have hj2 : j < news.length := by omega
        simp [List.getD, hj2]

/-- Blocks outside of the footprint F are as they were. -/
structure Fr (F : Nat → Prop) (w w' : World) : Prop where
  os : w'.os = w.os
  tape : w'.tape = w.tape
  output : w'.output = w.output
  size : w.heap.size ≤ w'.heap.size
  block : ∀ k, k < w.heap.size → ¬ F k → w'.heap[k]? = w.heap[k]?
theorem Fr.refl (F : Nat → Prop) (w : World) : Fr F w w := ⟨rfl, rfl, rfl, Nat.le_refl _, fun _ _ _ => rfl⟩
theorem Fr.call {F : Nat → Prop} {w w1 w2 : World} (h : Fr F w w1) (hb : Below w1.heap.size w1 w2) : Fr F w w2 :=
  ⟨hb.os.trans h.os, hb.tape.trans h.tape, hb.output.trans h.output, Nat.le_trans h.size hb.size, fun k hk hF => (hb.block k (Nat.lt_of_lt_of_le hk h.size)).trans (h.block k hk hF)⟩
theorem Fr.set {F : Nat → Prop} {w w1 : World} (h : Fr F w w1) {b o : Nat} (v : Value) (hb : b < w.heap.size → F b) : Fr F w (w1.setCell ⟨b, o, none⟩ v) :=
  ⟨h.os, h.tape, h.output, by simpa [World.setCell] using h.size, fun k hk hF => by
    rw [Below.heap_setCell _ _ _ _ (by rintro rfl; exact hF (hb hk))]
    exact h.block k hk hF⟩
theorem Fr.only {F : Nat → Prop} {w w1 w2 : World} {b : Nat} (h : Fr F w w1) (ho : Only b w1 w2) (hb : b < w.heap.size → F b) : Fr F w w2 :=
  ⟨ho.os.trans h.os, ho.tape.trans h.tape, ho.output.trans h.output, by rw [ho.size]; exact h.size, fun k hk hF => by
    rw [ho.block k (by rintro rfl; exact hF (hb hk))]
    exact h.block k hk hF⟩
theorem Fr.grown {F : Nat → Prop} {w w1 w2 : World} {row : Option Nat} (h : Fr F w w1) (hg : w1.grownBy w2 row) (hb : ∀ b, row = some b → b < w.heap.size → F b) : Fr F w w2 :=
  ⟨hg.os.trans h.os, hg.tape.trans h.tape, hg.output.trans h.output, Nat.le_trans h.size hg.size, fun k hk hF => by
    rw [hg.block k (Nat.lt_of_lt_of_le hk h.size) (fun e => hF (hb k e.symm hk))]
    exact h.block k hk hF⟩
theorem Fr.trans {F F' : Nat → Prop} {w w1 w2 : World} (h : Fr F w w1) (h' : Fr F' w1 w2) (hs : ∀ b, F' b → F b ∨ w.heap.size ≤ b) : Fr F w w2 :=
  ⟨h'.os.trans h.os, h'.tape.trans h.tape, h'.output.trans h.output, Nat.le_trans h.size h'.size, fun k hk hF => by
    rw [h'.block k (Nat.lt_of_lt_of_le hk h.size) (fun e => by rcases hs k e with h0 | h0; exact hF h0; omega)]
    exact h.block k hk hF⟩
theorem Fr.of_below {F : Nat → Prop} {w w1 : World} (hb : Below w.heap.size w w1) : Fr F w w1 := (Fr.refl F w).call hb
/-- A footprint of new blocks only: nothing of what was there has turned. -/
theorem Fr.below {F : Nat → Prop} {w w1 : World} {B : Nat} (h : Fr F w w1) (hF : ∀ b, F b → B ≤ b) (hB : B ≤ w.heap.size) : Below B w w1 :=
  ⟨h.os, h.tape, h.output, h.size, fun k hk => h.block k (by omega) (fun e => by have := hF k e; omega)⟩
theorem grown_bx {w w' : World} {row : Option Nat} (hg : w.grownBy w' row) {b : Nat} {T : TypeId} {cs : Array Value} (x : Bx w b T cs) (hne : row ≠ some b) : Bx w' b T cs := by
  unfold Bx
  rw [hg.block b x.lt (fun e => hne e.symm)]; exact x
theorem grown_row {w w' : World} {row : Option Nat} (hg : w.grownBy w' row) {T : TypeId} {s n : Nat} {v : Value} {c : Nat → Nat → Value} (x : RowN w T s v n c) (hne : ∀ g, v.ownBlock = some g → row ≠ some g) : RowN w' T s v n c :=
  x.lift fun g hg' hlt => hg.block g hlt (fun e => hne g hg' e.symm)
theorem Only.rowN {b : Nat} {w w' : World} (ho : Only b w w') {T : TypeId} {s n : Nat} {v : Value} {c : Nat → Nat → Value} (x : RowN w T s v n c) (hne : ∀ g, v.ownBlock = some g → g ≠ b) : RowN w' T s v n c :=
  x.lift fun g hg' _ => ho.block g (hne g hg')
theorem grown_rf {w : World} {row : Option Nat} : w.grownBy w row := ⟨rfl, rfl, rfl, Nat.le_refl _, fun _ _ _ => rfl⟩
theorem grown_al {w w' : World} {row : Option Nat} {ob : Obj} (h : w.grownBy w' row) : w.grownBy (w'.alloc ob) row := h.trans (World.grownBy_alloc w' ob row)
theorem grown_dr {w w' : World} {row : Option Nat} (h : w.grownBy w' row) : w.grownBy w'.drew row := ⟨h.os, h.tape, h.output, h.size, h.block⟩
theorem bx_dr {w : World} {b : Nat} {T : TypeId} {cs : Array Value} (h : Bx w b T cs) : Bx w.drew b T cs := h
theorem bx_al {w : World} {b : Nat} {T : TypeId} {cs : Array Value} {ob : Obj} (h : Bx w b T cs) : Bx (w.alloc ob) b T cs := h.alloc ob
/-- Two blocks of different types are different. -/
theorem types_ne {w : World} {a b : Nat} {T T' : TypeId} {cs cs' : Array Value} (h1 : w.heap[a]? = some (.cells cs T (0, 0))) (h2 : w.heap[b]? = some (.cells cs' T' (0, 0))) (hne : T ≠ T') : a ≠ b := by
  rintro rfl
  rw [h1] at h2
  cases h2
  exact hne rfl
end Go.Proofs.YtilninaminaadaaGreatDoor
