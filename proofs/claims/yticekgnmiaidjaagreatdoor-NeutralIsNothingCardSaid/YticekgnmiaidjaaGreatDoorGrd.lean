/- As Late, and operations of the head may be guarded: what is asked of an operation is asked under its guard. -/
import Derived.Test.YticekgnmiaidjaaGreatDoorInv
namespace Go.Proofs.YticekgnmiaidjaaGreatDoor

section
open Go.RowKit
section
variable {P : Program} {ops : Array Oper} {md : Region.Mode}

def sinkLB (md : Region.Mode) (ops : Array Oper) (n : Nat) (lt : Nat → Bool) : Bool :=
  (List.range n).all fun i => lt i || (List.range (n + 1)).any fun j => decide (i < j) && !lt j && Region.waitsFor md ops j i
def lateB (md : Region.Mode) (ops : Array Oper) (n : Nat) (lt : Nat → Bool) : Bool :=
  (List.range n).all fun i => !lt i || (List.range ops.size).all fun j => i == j || Region.waitsFor md ops i j || Region.waitsFor md ops j i || (match ops[i]?, ops[j]? with
    | some oi, some oj => oi.apart ops oj
    | _, _ => false)
def relLB (md : Region.Mode) (ops : Array Oper) (n sz : Nat) (lt : Nat → Bool) : Bool :=
  decide (n < ops.size) && sinkLB md ops n lt && Region.chainB md ops n && Region.seqB md ops (ops.size - n) n (fullL ops.size n) && headB md ops n sz && Region.noSelect ops && lateB md ops n lt && !lt n

theorem tail_waitsL {n : Nat} {lt : Nat → Bool} {listed : Array Bool} (hs : sinkLB md ops n lt = true) (hc : Region.chainB md ops n = true) (hn : n < ops.size) (inv : HeadInv md ops n listed) :
    ∀ (d i : Nat), n - i = d → i < n → lt i = false → listed.getD i true = false → ∀ t, n ≤ t → t ∉ Region.ready md ops listed := by
  intro d
  induction d using Nat.strongRecOn with
  | _ d ih =>
    intro i hd hi hli hun t ht hr
    obtain ⟨_, ot, hot, hall⟩ := mem_ready.1 hr
    have htlt : t < ops.size := (Array.getElem?_eq_some_iff.1 hot).1
    by_cases htn : t = n
    · subst htn
      have h1 := List.all_eq_true.1 hs i (List.mem_range.2 hi)
      rw [hli, Bool.false_or] at h1
      obtain ⟨j, hj, hj2⟩ := List.any_eq_true.1 h1
      simp only [Bool.and_eq_true, decide_eq_true_eq, Bool.not_eq_true'] at hj2
      obtain ⟨oj, hoj, e, he, hb, hon⟩ := Region.waitsFor_spec hj2.2
      have hjle : j ≤ t := by have := List.mem_range.1 hj; omega
      by_cases hjt : j = t
      · subst hjt
        have : oj = ot := Option.some.inj (hoj.symm.trans hot)
        subst this
        have h2 := hall e he hb
        rw [hon, getD_both hun] at h2
        cases h2
      · cases hl : listed.getD j false with
        | true =>
          have h2 := inv.closed j oj hoj hl e he hb
          rw [hon, getD_both hun] at h2
          cases h2
        | false =>
          have hjs : j < listed.size := by rw [inv.size]; omega
          exact ih (t - j) (by omega) j rfl (by omega) hj2.1.2 (getD_in hjs hl) t (Nat.le_refl _) hr
    · have h1 := List.all_eq_true.1 hc t (List.mem_range.2 htlt)
      simp only [Bool.or_eq_true, decide_eq_true_eq] at h1
      rcases h1 with h1 | h1
      · omega
      · obtain ⟨oj, hoj, e, he, hb, hon⟩ := Region.waitsFor_spec h1
        have : oj = ot := Option.some.inj (hoj.symm.trans hot)
        subst this
        have h2 := hall e he hb
        rw [hon, getD_both (inv.tail (t - 1) (by omega) (by omega))] at h2
        cases h2

theorem any_of_late {Q : Exit → Act → World → Prop} {n : Nat} {A : Nat → Value → World → Prop} {fr : Nat → Bool} {E : World → Prop} {a0 : Act} {lt : Nat → Bool}
    (hB : relLB md ops n a0.tmps.size lt = true) (hQ : ∀ c (a : Act) (d : Tmp) v w, Q (.panic c) (a.put (some d) v) w → Q (.panic c) a w)
    (hE : ∀ w w', Below w.heap.size w w' → E w → E w') (hA : ∀ j v w w', Below w.heap.size w w' → A j v w → A j v w')
    (hob : ∀ i o, i < n → lt i = false → ops[i]? = some o → RelOb P md ops n A fr E a0 Q i o)
    (hlate : ∀ i o, i < n → lt i = true → ops[i]? = some o → ∀ a w, E w → (∀ e ∈ o.after, Region.binds md e = true → A e.on (slotOf ops a e.on) w) → fr i = false ∧ ∃ v, A i v w ∧ ∀ u, (execOp a.eval o).run P u = .ok (.value v) u)
    (hend : ∀ a w, RelInv ops n A fr E a0 (fullL ops.size n) a w → wpList P ops Q (ops.toList.drop n) a w) (f : Nat) :
    ∀ li a w, HeadInv md ops n li → RelInv ops n A fr E a0 li a w → todo li n = f → wpAny P md ops Q (f + (ops.size - n)) li a w := by
  simp only [relLB, Bool.and_eq_true, decide_eq_true_eq, Bool.not_eq_true'] at hB
  obtain ⟨⟨⟨⟨⟨⟨⟨hn, hs⟩, hc⟩, hseq⟩, hh⟩, hsel⟩, hla⟩, hltn⟩ := hB
  induction f with
  | zero =>
    intro li a w inv hI htodo
    have hall : ∀ i, i < n → li.getD i false = true := by
      intro i hi
      cases hl : li.getD i false with
      | true => rfl
      | false =>
        have : i ∈ (List.range n).filter fun i => !li.getD i false := List.mem_filter.2 ⟨List.mem_range.2 hi, by rw [hl]; rfl⟩
        have := List.length_pos_of_mem this
        unfold todo at htodo
        omega
    have hfull : li = fullL ops.size n := by
      apply Array.ext
      · rw [inv.size]; simp [fullL]; omega
      · intro i h1 h2
        by_cases hi : i < n
        · have := hall i hi
          simp [h1] at this
          simp [fullL, hi, this]
        · have := inv.tail i (by omega) (by rw [← inv.size]; exact h1)
          simp [h1] at this
          simp [fullL, hi, this, Array.getElem_append]
    subst hfull
    rw [Nat.zero_add]
    have := wpAny_of_seq (md := md) (Q' := Q) (ops.toList.drop n) n (fullL ops.size n) a w (fun j => by simp [List.getElem?_drop]) (by simpa using hseq) (hend a w hI)
    simpa using this
  | succ f ih =>
    intro li a w inv hI htodo
    have hdone : ∀ i, i < n → ∀ o, ops[i]? = some o → (∀ e ∈ o.after, Region.binds md e = true → li.getD e.on false = true) → ∀ e ∈ o.after, Region.binds md e = true → A e.on (slotOf ops a e.on) w := by
      intro i hi o ho hd e he hb
      have h1 := hd e he hb
      refine hI.hold _ ?_ h1
      rcases Nat.lt_or_ge e.on n with h | h
      · exact h
      · rcases Nat.lt_or_ge e.on ops.size with h2 | h2
        · rw [getD_both (inv.tail e.on h h2)] at h1; cases h1
        · have : li.size ≤ e.on := by rw [inv.size]; exact h2
          simp [Array.getElem?_eq_none this] at h1
    rw [show f + 1 + (ops.size - n) = (f + (ops.size - n)) + 1 by omega]
    by_cases hlr : ∃ i, i < n ∧ lt i = true ∧ i ∈ Region.ready md ops li
    · obtain ⟨i, hin, hli, hir⟩ := hlr
      obtain ⟨hun, o, ho, hdeps⟩ := mem_ready.1 hir
      obtain ⟨o', d, ho', hg, hd, hds, _, huniq⟩ := headB_at hh hin
      obtain rfl : o' = o := Option.some.inj (ho'.symm.trans ho)
      have hdst : dstAt ops i = some d := by simp [dstAt, ho, hd]
      have hszi : i < li.size := by rw [inv.size]; omega
      obtain ⟨hfr, v, hAv, hrun⟩ := hlate i o' hin hli ho a w hI.e (hdone i hin o' ho hdeps)
      refine wpAny_first ho (Region.noSelect_spec hsel) (fun c a w h => hQ c a d v w (by rw [hd] at h; exact h)) _ li a w ?_ hir (.inl ⟨by simp [Region.wanted, hg], hrun⟩) ?_
      · intro j oj hoj hji hlj hnw
        have h1 := List.all_eq_true.1 hla i (List.mem_range.2 hin)
        rw [hli] at h1
        simp only [Bool.not_true, Bool.false_or] at h1
        have hjs : j < ops.size := (Array.getElem?_eq_some_iff.1 hoj).1
        have h2 := List.all_eq_true.1 h1 j (List.mem_range.2 hjs)
        simp only [ho, hoj, Bool.or_eq_true, beq_iff_eq] at h2
        rcases h2 with ((h2 | h2) | h2) | h2
        · exact absurd h2.symm hji
        · obtain ⟨oi, hoi, e, he, hb, hon⟩ := Region.waitsFor_spec h2
          obtain rfl : oi = o' := Option.some.inj (hoi.symm.trans ho)
          have h3 := hdeps e he hb
          rw [hon, getD_both hlj] at h3
          cases h3
        · obtain ⟨oj', hoj', e, he, hb, hon⟩ := Region.waitsFor_spec h2
          obtain rfl : oj' = oj := Option.some.inj (hoj'.symm.trans hoj)
          exact absurd hon (hnw e he hb)
        · exact h2
      · rw [hd]
        exact ih _ _ _ (inv.set hir hin) (hI.step hE hA hin hdst hds huniq (getD_both hun) hszi hAv (Below.refl _ _) (fun h => by rw [hfr] at h; cases h)) (by have := todo_set hin hszi (getD_both hun); omega)
    · have hex : ∃ i, i < n ∧ (!li.getD i false) = true := by
        have : 0 < ((List.range n).filter fun i => !li.getD i false).length := by unfold todo at htodo; omega
        obtain ⟨i, hi⟩ := List.exists_mem_of_length_pos this
        simp at hi
        exact ⟨i, hi.1, by simp [hi.2]⟩
      obtain ⟨i0, hi0, hu0, hleast⟩ := exists_least _ _ hex
      have hun0 : li.getD i0 false = false := by simpa using hu0
      have hsz0 : i0 < li.size := by rw [inv.size]; omega
      obtain ⟨o0, d0, ho0, _, _, _, hback, _⟩ := headB_at hh hi0
      have hready0 : i0 ∈ Region.ready md ops li := mem_ready.2 ⟨getD_in hsz0 hun0, o0, ho0, fun e he hb => by
        have := hleast e.on (hback e he hb)
        simpa using this⟩
      have hl0 : lt i0 = false := by
        cases h : lt i0 with
        | false => rfl
        | true => exact absurd ⟨i0, hi0, h, hready0⟩ hlr
      refine ⟨fun h => (by rw [h] at hready0; cases hready0), fun i hi => ?_⟩
      have hin : i < n := (Nat.lt_or_ge i n).elim id fun h => absurd hi (tail_waitsL hs hc hn inv _ i0 rfl hi0 hl0 (getD_in hsz0 hun0) i h)
      have hli : lt i = false := by
        cases h : lt i with
        | false => rfl
        | true => exact absurd ⟨i, hin, h, hi⟩ hlr
      obtain ⟨hun, o, ho, hdeps⟩ := mem_ready.1 hi
      obtain ⟨o', d, ho', hg, hd, hds, _, huniq⟩ := headB_at hh hin
      obtain rfl : o' = o := Option.some.inj (ho'.symm.trans ho)
      have hdst : dstAt ops i = some d := by simp [dstAt, ho, hd]
      have hszi : i < li.size := by rw [inv.size]; omega
      unfold wpOp
      simp only [ho]
      rw [if_pos (by simp [Region.wanted, hg])]
      refine .inl (Oper.wp_mono ?_ (hob i o' hin hli ho a w hI.e (fun s hs => hI.ag s fun j hj => by simpa using List.all_eq_true.1 hs j (List.mem_range.2 hj)) (hdone i hin o' ho hdeps)))
      rintro a' w' ⟨v, rfl, hAv, hb, hfr⟩
      rw [hd]
      exact ih _ _ _ (inv.set hi hin) (hI.step hE hA hin hdst hds huniq (getD_both hun) hszi hAv hb hfr) (by have := todo_set hin hszi (getD_both hun); omega)

/-- THE RULE, with late ones. -/
theorem wp_region_late {id : Nat} {Q : Exit → Act → World → Prop} {a0 : Act} {w0 : World} {l : List Oper} (n : Nat) (lt : Nat → Bool) (A : Nat → Value → World → Prop) (fr : Nat → Bool) (E : World → Prop)
    (hm : P.follows .mixedOrders = true) (hB : relLB .any l.toArray n a0.tmps.size lt = true) (hQ : ∀ c (a : Act) (d : Tmp) v w, Q (.panic c) (a.put (some d) v) w → Q (.panic c) a w)
    (hE : ∀ w w', Below w.heap.size w w' → E w → E w') (hA : ∀ j v w w', Below w.heap.size w w' → A j v w → A j v w')
    (hE0 : E w0.drew) (hob : ∀ i o, i < n → lt i = false → l[i]? = some o → RelOb P .any l.toArray n A fr E a0 Q i o)
    (hlate : ∀ i o, i < n → lt i = true → l[i]? = some o → ∀ a w, E w → (∀ e ∈ o.after, Region.binds .any e = true → A e.on (slotOf l.toArray a e.on) w) → fr i = false ∧ ∃ v, A i v w ∧ ∀ u, (execOp a.eval o).run P u = .ok (.value v) u)
    (hend : ∀ (vs : Nat → Value) w, E w → (∀ i, i < n → A i (vs i) w) → (∀ i j, i < n → j < n → i ≠ j → fr i = true → fr j = true → vs i ≠ vs j) → wpList P l.toArray Q (l.drop n) (putAll l.toArray a0 vs n) w) : (Code.region id l.toArray true).wp P Q a0 w0 := by
  have hB' := hB
  simp only [relLB, Bool.and_eq_true, decide_eq_true_eq] at hB'
  have hn : n < l.toArray.size := hB'.1.1.1.1.1.1.1
  have hhd := hB'.1.1.1.2
  have hn' : n < l.length := by simpa using hn
  have hrep : ∀ j, (Array.replicate l.toArray.size false).getD j false = false := fun j => getD_replicate_false _ _
  have inv0 : HeadInv .any l.toArray n (Array.replicate l.toArray.size false) :=
    ⟨by simp, fun j oj _ hl => (by rw [hrep] at hl; cases hl), fun t _ ht => getD_in (by simpa using ht) (hrep t)⟩
  have htodo : todo (Array.replicate l.toArray.size false) n = n := by
    unfold todo
    rw [List.filter_eq_self.2 (fun i _ => by rw [hrep]; rfl)]
    simp
  have := any_of_late (md := .any) (Q := Q) hB hQ hE hA (fun i o hi hl ho => hob i o hi hl (by simpa using ho)) (fun i o hi hl ho => hlate i o hi hl (by simpa using ho)) (fun a w hI => by
      have hf := hI.frame hhd
      rw [hf]
      simpa using hend (slotOf l.toArray a) w hI.e (fun i hi => hI.hold i hi (fullL_get hi)) (fun i j hi hj hij h1 h2 => hI.ne i j hi hj hij (fullL_get hi) (fullL_get hj) h1 h2)) n _ a0 w0.drew inv0
    (RelInv.mk hE0 rfl rfl (fun _ _ => rfl) (fun i _ hl => (by rw [hrep] at hl; cases hl)) (fun i _ hl => (by rw [hrep] at hl; cases hl)) (fun i j _ _ _ hl => (by rw [hrep] at hl; cases hl))) htodo
  rw [show n + (l.toArray.size - n) = l.toArray.size by omega] at this
  exact wp_region_any hm this
end
end

section
open Go.RowKit
section
variable {P : Program} {ops : Array Oper} {md : Region.Mode}

/-- The head's operations: a slot of its own each, leaning on earlier ones, its guard among them. -/
def headGB (md : Region.Mode) (ops : Array Oper) (n sz : Nat) : Bool :=
  (List.range n).all fun i => match ops[i]? with
    | some o => (match o.guard with | none => true | some (j, _) => o.after.any fun e => Region.binds md e && e.on == j) && o.after.all (fun e => !Region.binds md e || decide (e.on < i)) && (match o.dst with
      | some d => decide (d < sz) && (List.range n).all (fun j => j == i || dstAt ops j != some d)
      | none => false)
    | none => false
theorem headGB_at {n sz i : Nat} (h : headGB md ops n sz = true) (hi : i < n) : ∃ o d, ops[i]? = some o ∧ o.dst = some d ∧ d < sz ∧ (∀ e ∈ o.after, Region.binds md e = true → e.on < i) ∧ ∀ j, j < n → j ≠ i → dstAt ops j ≠ some d := by
  have h1 := List.all_eq_true.1 h i (List.mem_range.2 hi)
  cases ho : ops[i]? with
  | none => rw [ho] at h1; cases h1
  | some o =>
    rw [ho] at h1
    simp only [Bool.and_eq_true] at h1
    obtain ⟨⟨_, haf⟩, hd⟩ := h1
    cases hds : o.dst with
    | none => rw [hds] at hd; cases hd
    | some d =>
      rw [hds] at hd
      simp only [Bool.and_eq_true, decide_eq_true_eq] at hd
      refine ⟨o, d, rfl, hds, hd.1, fun e he hb => ?_, fun j hj hne => ?_⟩
      · have := Array.all_eq_true'.1 haf e he
        simpa [hb] using this
      · have := List.all_eq_true.1 hd.2 j (List.mem_range.2 hj)
        simpa [hne] using this
def lateGB (md : Region.Mode) (ops : Array Oper) (n : Nat) (lt : Nat → Bool) : Bool :=
  lateB md ops n lt && (List.range n).all fun i => !lt i || (match ops[i]? with | some o => o.guard.isNone | none => false)
def relGB (md : Region.Mode) (ops : Array Oper) (n sz : Nat) (lt : Nat → Bool) : Bool :=
  decide (n < ops.size) && sinkLB md ops n lt && Region.chainB md ops n && Region.seqB md ops (ops.size - n) n (fullL ops.size n) && headGB md ops n sz && Region.noSelect ops && lateGB md ops n lt && !lt n

/-- What is asked of one operation, under its guard. -/
def RelObG (P : Program) (md : Region.Mode) (ops : Array Oper) (n : Nat) (A : Nat → Value → World → Prop) (fr : Nat → Bool) (E : World → Prop) (a0 : Act) (Q : Exit → Act → World → Prop) (i : Nat) (o : Oper) : Prop :=
  ∀ a w, E w → (∀ s, ((List.range n).all fun j => dstAt ops j != some s) = true → a.tmps.getD s undef = a0.tmps.getD s undef) → (∀ e ∈ o.after, Region.binds md e = true → A e.on (slotOf ops a e.on) w) →
    (if Region.wanted o (yielded ops a.tmps) then o.wp P a w (RelPost A fr i o a w) Q else RelPost A fr i o a w (a.put o.dst undef) w)

theorem yielded_slot {a : Act} {j : Nat} {b : Bool} (h : slotOf ops a j = .bool b) : yielded ops a.tmps j = some b := by
  unfold slotOf at h
  cases hd : dstAt ops j with
  | none => rw [hd] at h; cases h
  | some d =>
    rw [hd] at h
    have h1 : a.tmps[d]? = some (.bool b) := by
      cases ht : a.tmps[d]? with
      | none => simp [ht] at h; exact absurd h (by simp [undef])
      | some v => simp [ht] at h; rw [h]
    unfold yielded
    unfold dstAt at hd
    rw [hd]
    simp [h1]
theorem grd_none {o : Oper} {a : Act} {w : World} {i : Nat} {A : Nat → Value → World → Prop} {fr : Nat → Bool} {Q : Exit → Act → World → Prop} (hg : o.guard = none) (h : o.wp P a w (RelPost A fr i o a w) Q) :
    (if Region.wanted o (yielded ops a.tmps) then o.wp P a w (RelPost A fr i o a w) Q else RelPost A fr i o a w (a.put o.dst undef) w) := by
  rw [if_pos (by simp [Region.wanted, hg])]
  exact h
theorem grd_yes {o : Oper} {a : Act} {w : World} {i j : Nat} {b : Bool} {A : Nat → Value → World → Prop} {fr : Nat → Bool} {Q : Exit → Act → World → Prop} (hg : o.guard = some (j, b)) (hs : slotOf ops a j = .bool b) (h : o.wp P a w (RelPost A fr i o a w) Q) :
    (if Region.wanted o (yielded ops a.tmps) then o.wp P a w (RelPost A fr i o a w) Q else RelPost A fr i o a w (a.put o.dst undef) w) := by
  rw [if_pos (by simp [Region.wanted, hg, yielded_slot hs])]
  exact h
theorem grd_no {o : Oper} {a : Act} {w : World} {i j : Nat} {b : Bool} {A : Nat → Value → World → Prop} {fr : Nat → Bool} {Q : Exit → Act → World → Prop} (hg : o.guard = some (j, b)) (hs : slotOf ops a j = .bool (!b)) (hf : fr i = false) (hA : A i undef w) :
    (if Region.wanted o (yielded ops a.tmps) then o.wp P a w (RelPost A fr i o a w) Q else RelPost A fr i o a w (a.put o.dst undef) w) := by
  rw [if_neg (by simp [Region.wanted, hg, yielded_slot hs])]
  exact ⟨undef, rfl, hA, Below.refl _ _, fun h => by rw [hf] at h; cases h⟩

theorem putAllG_at {a0 : Act} {vs : Nat → Value} {n : Nat} (hh : headGB md ops n a0.tmps.size = true) (m : Nat) (hm : m ≤ n) (s : Nat) :
    (∀ i d, i < m → dstAt ops i = some d → d = s → (putAll ops a0 vs m).tmps.getD s undef = vs i) ∧ ((∀ i, i < m → dstAt ops i ≠ some s) → (putAll ops a0 vs m).tmps.getD s undef = a0.tmps.getD s undef) := by
  induction m with
  | zero => exact ⟨fun i _ hi => by omega, fun _ => rfl⟩
  | succ m ih =>
    obtain ⟨ih1, ih2⟩ := ih (by omega)
    obtain ⟨o, d, ho, hd, hds, _, huniq⟩ := headGB_at hh (show m < n by omega)
    have hdm : dstAt ops m = some d := by simp [dstAt, ho, hd]
    unfold putAll
    rw [hdm, put_tmps, (putAll_size m).1]
    constructor
    · intro i d' hi hdi he
      by_cases him : i = m
      · subst him
        obtain rfl : d = d' := Option.some.inj (hdm.symm.trans hdi)
        rw [if_pos ⟨he.symm, hds⟩]
      · have : d' ≠ d := fun e => huniq i (by omega) him (by rw [hdi, e])
        rw [if_neg (fun h => this (he.trans h.1))]
        exact ih1 i d' (by omega) hdi he
    · intro hs
      have : s ≠ d := fun e => hs m (by omega) (by rw [hdm, e])
      rw [if_neg (fun h => this h.1)]
      exact ih2 fun i hi => hs i (by omega)

theorem RelInv.frameG {n : Nat} {A : Nat → Value → World → Prop} {fr : Nat → Bool} {E : World → Prop} {a0 a : Act} {li : Array Bool} {w : World} (hh : headGB md ops n a0.tmps.size = true)
    (hI : RelInv ops n A fr E a0 li a w) : a = putAll ops a0 (slotOf ops a) n := by
  have ht : a.tmps = (putAll ops a0 (slotOf ops a) n).tmps := by
    apply Array.ext
    · rw [(putAll_size n).1, hI.sz]
    · intro s h1 h2
      have key : a.tmps.getD s undef = (putAll ops a0 (slotOf ops a) n).tmps.getD s undef := by
        obtain ⟨k1, k2⟩ := putAllG_at (vs := slotOf ops a) hh n (Nat.le_refl _) s
        by_cases hex : ∃ i, i < n ∧ dstAt ops i = some s
        · obtain ⟨i, hi, hd⟩ := hex
          rw [k1 i s hi hd rfl]
          simp [slotOf, hd]
        · have hno : ∀ i, i < n → dstAt ops i ≠ some s := fun i hi hd => hex ⟨i, hi, hd⟩
          rw [k2 hno, hI.ag s hno]
      simpa [h1, h2] using key
  have hd : a.defers = (putAll ops a0 (slotOf ops a) n).defers := by rw [(putAll_size n).2, hI.df]
  generalize putAll ops a0 (slotOf ops a) n = b at ht hd
  cases a; cases b
  simp only at ht hd
  rw [ht, hd]

theorem any_of_grd {Q : Exit → Act → World → Prop} {n : Nat} {A : Nat → Value → World → Prop} {fr : Nat → Bool} {E : World → Prop} {a0 : Act} {lt : Nat → Bool}
    (hB : relGB md ops n a0.tmps.size lt = true) (hQ : ∀ c (a : Act) (d : Tmp) v w, Q (.panic c) (a.put (some d) v) w → Q (.panic c) a w)
    (hE : ∀ w w', Below w.heap.size w w' → E w → E w') (hA : ∀ j v w w', Below w.heap.size w w' → A j v w → A j v w')
    (hob : ∀ i o, i < n → lt i = false → ops[i]? = some o → RelObG P md ops n A fr E a0 Q i o)
    (hlate : ∀ i o, i < n → lt i = true → ops[i]? = some o → ∀ a w, E w → (∀ e ∈ o.after, Region.binds md e = true → A e.on (slotOf ops a e.on) w) → fr i = false ∧ ∃ v, A i v w ∧ ∀ u, (execOp a.eval o).run P u = .ok (.value v) u)
    (hend : ∀ a w, RelInv ops n A fr E a0 (fullL ops.size n) a w → wpList P ops Q (ops.toList.drop n) a w) (f : Nat) :
    ∀ li a w, HeadInv md ops n li → RelInv ops n A fr E a0 li a w → todo li n = f → wpAny P md ops Q (f + (ops.size - n)) li a w := by
  simp only [relGB, Bool.and_eq_true, decide_eq_true_eq, Bool.not_eq_true'] at hB
  obtain ⟨⟨⟨⟨⟨⟨⟨hn, hs⟩, hc⟩, hseq⟩, hh⟩, hsel⟩, hlag⟩, hltn⟩ := hB
  simp only [lateGB, Bool.and_eq_true] at hlag
  obtain ⟨hla, hlg⟩ := hlag
  induction f with
  | zero =>
    intro li a w inv hI htodo
    have hall : ∀ i, i < n → li.getD i false = true := by
      intro i hi
      cases hl : li.getD i false with
      | true => rfl
      | false =>
        have : i ∈ (List.range n).filter fun i => !li.getD i false := List.mem_filter.2 ⟨List.mem_range.2 hi, by rw [hl]; rfl⟩
        have := List.length_pos_of_mem this
        unfold todo at htodo
        omega
    have hfull : li = fullL ops.size n := by
      apply Array.ext
      · rw [inv.size]; simp [fullL]; omega
      · intro i h1 h2
        by_cases hi : i < n
        · have := hall i hi
          simp [h1] at this
          simp [fullL, hi, this]
        · have := inv.tail i (by omega) (by rw [← inv.size]; exact h1)
          simp [h1] at this
          simp [fullL, hi, this, Array.getElem_append]
    subst hfull
    rw [Nat.zero_add]
    have := wpAny_of_seq (md := md) (Q' := Q) (ops.toList.drop n) n (fullL ops.size n) a w (fun j => by simp [List.getElem?_drop]) (by simpa using hseq) (hend a w hI)
    simpa using this
  | succ f ih =>
    intro li a w inv hI htodo
    have hdone : ∀ i, i < n → ∀ o, ops[i]? = some o → (∀ e ∈ o.after, Region.binds md e = true → li.getD e.on false = true) → ∀ e ∈ o.after, Region.binds md e = true → A e.on (slotOf ops a e.on) w := by
      intro i hi o ho hd e he hb
      have h1 := hd e he hb
      refine hI.hold _ ?_ h1
      rcases Nat.lt_or_ge e.on n with h | h
      · exact h
      · rcases Nat.lt_or_ge e.on ops.size with h2 | h2
        · rw [getD_both (inv.tail e.on h h2)] at h1; cases h1
        · have : li.size ≤ e.on := by rw [inv.size]; exact h2
          simp [Array.getElem?_eq_none this] at h1
    rw [show f + 1 + (ops.size - n) = (f + (ops.size - n)) + 1 by omega]
    by_cases hlr : ∃ i, i < n ∧ lt i = true ∧ i ∈ Region.ready md ops li
    · obtain ⟨i, hin, hli, hir⟩ := hlr
      obtain ⟨hun, o, ho, hdeps⟩ := mem_ready.1 hir
      obtain ⟨o', d, ho', hd, hds, _, huniq⟩ := headGB_at hh hin
      obtain rfl : o' = o := Option.some.inj (ho'.symm.trans ho)
      have hdst : dstAt ops i = some d := by simp [dstAt, ho, hd]
      have hszi : i < li.size := by rw [inv.size]; omega
      have hg : o'.guard = none := by
        have h1 := List.all_eq_true.1 hlg i (List.mem_range.2 hin)
        rw [hli, ho] at h1
        simpa using h1
      obtain ⟨hfr, v, hAv, hrun⟩ := hlate i o' hin hli ho a w hI.e (hdone i hin o' ho hdeps)
      refine wpAny_first ho (Region.noSelect_spec hsel) (fun c a w h => hQ c a d v w (by rw [hd] at h; exact h)) _ li a w ?_ hir (.inl ⟨by simp [Region.wanted, hg], hrun⟩) ?_
      · intro j oj hoj hji hlj hnw
        have h1 := List.all_eq_true.1 hla i (List.mem_range.2 hin)
        rw [hli] at h1
        simp only [Bool.not_true, Bool.false_or] at h1
        have hjs : j < ops.size := (Array.getElem?_eq_some_iff.1 hoj).1
        have h2 := List.all_eq_true.1 h1 j (List.mem_range.2 hjs)
        simp only [ho, hoj, Bool.or_eq_true, beq_iff_eq] at h2
        rcases h2 with ((h2 | h2) | h2) | h2
        · exact absurd h2.symm hji
        · obtain ⟨oi, hoi, e, he, hb, hon⟩ := Region.waitsFor_spec h2
          obtain rfl : oi = o' := Option.some.inj (hoi.symm.trans ho)
          have h3 := hdeps e he hb
          rw [hon, getD_both hlj] at h3
          cases h3
        · obtain ⟨oj', hoj', e, he, hb, hon⟩ := Region.waitsFor_spec h2
          obtain rfl : oj' = oj := Option.some.inj (hoj'.symm.trans hoj)
          exact absurd hon (hnw e he hb)
        · exact h2
      · rw [hd]
        exact ih _ _ _ (inv.set hir hin) (hI.step hE hA hin hdst hds huniq (getD_both hun) hszi hAv (Below.refl _ _) (fun h => by rw [hfr] at h; cases h)) (by have := todo_set hin hszi (getD_both hun); omega)
    · have hex : ∃ i, i < n ∧ (!li.getD i false) = true := by
        have : 0 < ((List.range n).filter fun i => !li.getD i false).length := by unfold todo at htodo; omega
        obtain ⟨i, hi⟩ := List.exists_mem_of_length_pos this
        simp at hi
        exact ⟨i, hi.1, by simp [hi.2]⟩
      obtain ⟨i0, hi0, hu0, hleast⟩ := exists_least _ _ hex
      have hun0 : li.getD i0 false = false := by simpa using hu0
      have hsz0 : i0 < li.size := by rw [inv.size]; omega
      obtain ⟨o0, d0, ho0, _, _, hback, _⟩ := headGB_at hh hi0
      have hready0 : i0 ∈ Region.ready md ops li := mem_ready.2 ⟨getD_in hsz0 hun0, o0, ho0, fun e he hb => by
        have := hleast e.on (hback e he hb)
        simpa using this⟩
      have hl0 : lt i0 = false := by
        cases h : lt i0 with
        | false => rfl
        | true => exact absurd ⟨i0, hi0, h, hready0⟩ hlr
      refine ⟨fun h => (by rw [h] at hready0; cases hready0), fun i hi => ?_⟩
      have hin : i < n := (Nat.lt_or_ge i n).elim id fun h => absurd hi (tail_waitsL hs hc hn inv _ i0 rfl hi0 hl0 (getD_in hsz0 hun0) i h)
      have hli : lt i = false := by
        cases h : lt i with
        | false => rfl
        | true => exact absurd ⟨i, hin, h, hi⟩ hlr
      obtain ⟨hun, o, ho, hdeps⟩ := mem_ready.1 hi
      obtain ⟨o', d, ho', hd, hds, _, huniq⟩ := headGB_at hh hin
      obtain rfl : o' = o := Option.some.inj (ho'.symm.trans ho)
      have hdst : dstAt ops i = some d := by simp [dstAt, ho, hd]
      have hszi : i < li.size := by rw [inv.size]; omega
      have hobi := hob i o' hin hli ho a w hI.e (fun s hs => hI.ag s fun j hj => by simpa using List.all_eq_true.1 hs j (List.mem_range.2 hj)) (hdone i hin o' ho hdeps)
      have hstep : ∀ a' w', RelPost A fr i o' a w a' w' → wpAny P md ops Q (f + (ops.size - n)) (li.setIfInBounds i true) a' w' := by
        rintro a' w' ⟨v, rfl, hAv, hb, hfr⟩
        rw [hd]
        exact ih _ _ _ (inv.set hi hin) (hI.step hE hA hin hdst hds huniq (getD_both hun) hszi hAv hb hfr) (by have := todo_set hin hszi (getD_both hun); omega)
      unfold wpOp
      simp only [ho]
      cases hw : Region.wanted o' (yielded ops a.tmps)
      · rw [if_neg (by simp)]
        rw [hw, if_neg (by simp)] at hobi
        exact hstep _ _ hobi
      · rw [if_pos rfl]
        rw [hw, if_pos rfl] at hobi
        exact .inl (Oper.wp_mono hstep hobi)

/-- THE RULE, with late ones. -/
theorem wp_region_grd {id : Nat} {Q : Exit → Act → World → Prop} {a0 : Act} {w0 : World} {l : List Oper} (n : Nat) (lt : Nat → Bool) (A : Nat → Value → World → Prop) (fr : Nat → Bool) (E : World → Prop)
    (hm : P.follows .mixedOrders = true) (hB : relGB .any l.toArray n a0.tmps.size lt = true) (hQ : ∀ c (a : Act) (d : Tmp) v w, Q (.panic c) (a.put (some d) v) w → Q (.panic c) a w)
    (hE : ∀ w w', Below w.heap.size w w' → E w → E w') (hA : ∀ j v w w', Below w.heap.size w w' → A j v w → A j v w')
    (hE0 : E w0.drew) (hob : ∀ i o, i < n → lt i = false → l[i]? = some o → RelObG P .any l.toArray n A fr E a0 Q i o)
    (hlate : ∀ i o, i < n → lt i = true → l[i]? = some o → ∀ a w, E w → (∀ e ∈ o.after, Region.binds .any e = true → A e.on (slotOf l.toArray a e.on) w) → fr i = false ∧ ∃ v, A i v w ∧ ∀ u, (execOp a.eval o).run P u = .ok (.value v) u)
    (hend : ∀ (vs : Nat → Value) w, E w → (∀ i, i < n → A i (vs i) w) → (∀ i j, i < n → j < n → i ≠ j → fr i = true → fr j = true → vs i ≠ vs j) → wpList P l.toArray Q (l.drop n) (putAll l.toArray a0 vs n) w) : (Code.region id l.toArray true).wp P Q a0 w0 := by
  have hB' := hB
  simp only [relGB, Bool.and_eq_true, decide_eq_true_eq] at hB'
  have hn : n < l.toArray.size := hB'.1.1.1.1.1.1.1
  have hhd := hB'.1.1.1.2
  have hn' : n < l.length := by simpa using hn
  have hrep : ∀ j, (Array.replicate l.toArray.size false).getD j false = false := fun j => getD_replicate_false _ _
  have inv0 : HeadInv .any l.toArray n (Array.replicate l.toArray.size false) :=
    ⟨by simp, fun j oj _ hl => (by rw [hrep] at hl; cases hl), fun t _ ht => getD_in (by simpa using ht) (hrep t)⟩
  have htodo : todo (Array.replicate l.toArray.size false) n = n := by
    unfold todo
    rw [List.filter_eq_self.2 (fun i _ => by rw [hrep]; rfl)]
    simp
  have := any_of_grd (md := .any) (Q := Q) hB hQ hE hA (fun i o hi hl ho => hob i o hi hl (by simpa using ho)) (fun i o hi hl ho => hlate i o hi hl (by simpa using ho)) (fun a w hI => by
      have hf := hI.frameG hhd
      rw [hf]
      simpa using hend (slotOf l.toArray a) w hI.e (fun i hi => hI.hold i hi (fullL_get hi)) (fun i j hi hj hij h1 h2 => hI.ne i j hi hj hij (fullL_get hi) (fullL_get hj) h1 h2)) n _ a0 w0.drew inv0
    (RelInv.mk hE0 rfl rfl (fun _ _ => rfl) (fun i _ hl => (by rw [hrep] at hl; cases hl)) (fun i _ hl => (by rw [hrep] at hl; cases hl)) (fun i j _ _ _ hl => (by rw [hrep] at hl; cases hl))) htodo
  rw [show n + (l.toArray.size - n) = l.toArray.size by omega] at this
  exact wp_region_any hm this
end
end
end Go.Proofs.YticekgnmiaidjaaGreatDoor
