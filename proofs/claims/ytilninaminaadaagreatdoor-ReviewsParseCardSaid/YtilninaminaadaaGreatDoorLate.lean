/- As Rel, but some pure operations of the head may come up as late as the tail does (the second part of 'x, e := f(g())' is such a one). -/
import Derived.Test.YtilninaminaadaaGreatDoorRel
namespace Go.Proofs.YtilninaminaadaaGreatDoor
open Go.RowKit
section
variable {P : Program} {ops : Array Oper} {md : Region.Mode}

def sinkLB (md : Region.Mode) (ops : Array Oper) (n : Nat) (lt : Nat → Bool) : Bool :=
  (List.range n).all fun i => lt i || (List.range (n + 1)).any fun j => decide (i < j) && !lt j && Region.waitsFor md ops j i
def lateB (md : Region.Mode) (ops : Array Oper) (n : Nat) (lt : Nat → Bool) : Bool :=
  (List.range n).all fun i => !lt i || (List.range ops.size).all fun j => i == j || Region.waitsFor md ops i j || Region.waitsFor md ops j i || (match ops[i]?, ops[j]? with
    | some oi, some oj => oi.apart ops oj
    | _, _ => false)
def relLB (md : Region.Mode) (ops : Array Oper) (n sz : Nat) (lt : Nat → Bool) : Bool :=
  decide (n < ops.size) && sinkLB md ops n lt && Region.chainB md ops n && Region.seqB md ops (ops.size - n) n (fullL ops.size n) && headB md ops n sz && Region.noSelect ops && lateB md ops n lt && !lt n

theorem tail_waitsL {n : Nat} {lt : Nat → Bool} {listed : Array Bool} (hs : sinkLB md ops n lt = true) (hc : Region.chainB md ops n = true) (hn : n < ops.size) (inv : HeadInv md ops n listed) :
    ∀ (d i : Nat), n - i = d → i < n → lt i = false → listed.getD i true = false → ∀ t, n ≤ t → t ∉ Region.ready md ops listed := by
  intro d
  induction d using Nat.strongRecOn with
  | _ d ih =>
    intro i hd hi hli hun t ht hr
    obtain ⟨_, ot, hot, hall⟩ := mem_ready.1 hr
    have htlt : t < ops.size := (Array.getElem?_eq_some_iff.1 hot).1
    by_cases htn : t = n
    · subst htn
      have h1 := List.all_eq_true.1 hs i (List.mem_range.2 hi)
      rw [hli, Bool.false_or] at h1
      obtain ⟨j, hj, hj2⟩ := List.any_eq_true.1 h1
      simp only [Bool.and_eq_true, decide_eq_true_eq, Bool.not_eq_true'] at hj2
      obtain ⟨oj, hoj, e, he, hb, hon⟩ := Region.waitsFor_spec hj2.2
      have hjle : j ≤ t := by have := List.mem_range.1 hj; omega
      by_cases hjt : j = t
      · subst hjt
        have : oj = ot := Option.some.inj (hoj.symm.trans hot)
        subst this
        have h2 := hall e he hb
        rw [hon, getD_both hun] at h2
        cases h2
      · cases hl : listed.getD j false with
        | true =>
          have h2 := inv.closed j oj hoj hl e he hb
          rw [hon, getD_both hun] at h2
          cases h2
        | false =>
          have hjs : j < listed.size := by rw [inv.size]; omega
          exact ih (t - j) (by omega) j rfl (by omega) hj2.1.2 (getD_in hjs hl) t (Nat.le_refl _) hr
    · have h1 := List.all_eq_true.1 hc t (List.mem_range.2 htlt)
      simp only [Bool.or_eq_true, decide_eq_true_eq] at h1
      rcases h1 with h1 | h1
      · omega
      · obtain ⟨oj, hoj, e, he, hb, hon⟩ := Region.waitsFor_spec h1
        have : oj = ot := Option.some.inj (hoj.symm.trans hot)
        subst this
        have h2 := hall e he hb
        rw [hon, getD_both (inv.tail (t - 1) (by omega) (by omega))] at h2
        cases h2

theorem any_of_late {Q : Exit → Act → World → Prop} {n : Nat} {A : Nat → Value → World → Prop} {fr : Nat → Bool} {E : World → Prop} {a0 : Act} {lt : Nat → Bool}
    (hB : relLB md ops n a0.tmps.size lt = true) (hQ : ∀ c (a : Act) (d : Tmp) v w, Q (.panic c) (a.put (some d) v) w → Q (.panic c) a w)
    (hE : ∀ w w', Below w.heap.size w w' → E w → E w') (hA : ∀ j v w w', Below w.heap.size w w' → A j v w → A j v w')
    (hob : ∀ i o, i < n → lt i = false → ops[i]? = some o → RelOb P md ops n A fr E a0 Q i o)
    (hlate : ∀ i o, i < n → lt i = true → ops[i]? = some o → ∀ a w, E w → (∀ e ∈ o.after, Region.binds md e = true → A e.on (slotOf ops a e.on) w) → fr i = false ∧ ∃ v, A i v w ∧ ∀ u, (execOp a.eval o).run P u = .ok (.value v) u)
    (hend : ∀ a w, RelInv ops n A fr E a0 (fullL ops.size n) a w → wpList P ops Q (ops.toList.drop n) a w) (f : Nat) :
    ∀ li a w, HeadInv md ops n li → RelInv ops n A fr E a0 li a w → todo li n = f → wpAny P md ops Q (f + (ops.size - n)) li a w := by
  simp only [relLB, Bool.and_eq_true, decide_eq_true_eq, Bool.not_eq_true'] at hB
  obtain ⟨⟨⟨⟨⟨⟨⟨hn, hs⟩, hc⟩, hseq⟩, hh⟩, hsel⟩, hla⟩, hltn⟩ := hB
  induction f with
  | zero =>
    intro li a w inv hI htodo
    have hall : ∀ i, i < n → li.getD i false = true := by
      intro i hi
      cases hl : li.getD i false with
      | true => rfl
      | false =>
        have : i ∈ (List.range n).filter fun i => !li.getD i false := List.mem_filter.2 ⟨List.mem_range.2 hi, by rw [hl]; rfl⟩
        have := List.length_pos_of_mem this
        unfold todo at htodo
        omega
    have hfull : li = fullL ops.size n := by
      apply Array.ext
      · rw [inv.size]; simp [fullL]; omega
      · intro i h1 h2
        by_cases hi : i < n
        · have := hall i hi
          simp [h1] at this
          simp [fullL, hi, this]
        · have := inv.tail i (by omega) (by rw [← inv.size]; exact h1)
          simp [h1] at this
          simp [fullL, hi, this, Array.getElem_append]
    subst hfull
    rw [Nat.zero_add]
    have := wpAny_of_seq (md := md) (Q' := Q) (ops.toList.drop n) n (fullL ops.size n) a w (fun j => by simp [List.getElem?_drop]) (by simpa using hseq) (hend a w hI)
    simpa using this
  | succ f ih =>
    intro li a w inv hI htodo
    have hdone : ∀ i, i < n → ∀ o, ops[i]? = some o → (∀ e ∈ o.after, Region.binds md e = true → li.getD e.on false = true) → ∀ e ∈ o.after, Region.binds md e = true → A e.on (slotOf ops a e.on) w := by
      intro i hi o ho hd e he hb
      have h1 := hd e he hb
      refine hI.hold _ ?_ h1
      rcases Nat.lt_or_ge e.on n with h | h
      · exact h
      · rcases Nat.lt_or_ge e.on ops.size with h2 | h2
        · rw [getD_both (inv.tail e.on h h2)] at h1; cases h1
        · have : li.size ≤ e.on := by rw [inv.size]; exact h2
          simp [Array.getElem?_eq_none this] at h1
    rw [show f + 1 + (ops.size - n) = (f + (ops.size - n)) + 1 by omega]
    by_cases hlr : ∃ i, i < n ∧ lt i = true ∧ i ∈ Region.ready md ops li
    · obtain ⟨i, hin, hli, hir⟩ := hlr
      obtain ⟨hun, o, ho, hdeps⟩ := mem_ready.1 hir
      obtain ⟨o', d, ho', hg, hd, hds, _, huniq⟩ := headB_at hh hin
      obtain rfl : o' = o := Option.some.inj (ho'.symm.trans ho)
      have hdst : dstAt ops i = some d := by simp [dstAt, ho, hd]
      have hszi : i < li.size := by rw [inv.size]; omega
      obtain ⟨hfr, v, hAv, hrun⟩ := hlate i o' hin hli ho a w hI.e (hdone i hin o' ho hdeps)
      refine wpAny_first ho (Region.noSelect_spec hsel) (fun c a w h => hQ c a d v w (by rw [hd] at h; exact h)) _ li a w ?_ hir (.inl ⟨by simp [Region.wanted, hg], hrun⟩) ?_
      · intro j oj hoj hji hlj hnw
        have h1 := List.all_eq_true.1 hla i (List.mem_range.2 hin)
        rw [hli] at h1
        simp only [Bool.not_true, Bool.false_or] at h1
        have hjs : j < ops.size := (Array.getElem?_eq_some_iff.1 hoj).1
        have h2 := List.all_eq_true.1 h1 j (List.mem_range.2 hjs)
        simp only [ho, hoj, Bool.or_eq_true, beq_iff_eq] at h2
        rcases h2 with ((h2 | h2) | h2) | h2
        · exact absurd h2.symm hji
        · obtain ⟨oi, hoi, e, he, hb, hon⟩ := Region.waitsFor_spec h2
          obtain rfl : oi = o' := Option.some.inj (hoi.symm.trans ho)
          have h3 := hdeps e he hb
          rw [hon, getD_both hlj] at h3
          cases h3
        · obtain ⟨oj', hoj', e, he, hb, hon⟩ := Region.waitsFor_spec h2
          obtain rfl : oj' = oj := Option.some.inj (hoj'.symm.trans hoj)
          exact absurd hon (hnw e he hb)
        · exact h2
      · rw [hd]
        exact ih _ _ _ (inv.set hir hin) (hI.step hE hA hin hdst hds huniq (getD_both hun) hszi hAv (Below.refl _ _) (fun h => by rw [hfr] at h; cases h)) (by have := todo_set hin hszi (getD_both hun); omega)
    · have hex : ∃ i, i < n ∧ (!li.getD i false) = true := by
        have : 0 < ((List.range n).filter fun i => !li.getD i false).length := by unfold todo at htodo; omega
        obtain ⟨i, hi⟩ := List.exists_mem_of_length_pos this
        simp at hi
        exact ⟨i, hi.1, by simp [hi.2]⟩
      obtain ⟨i0, hi0, hu0, hleast⟩ := exists_least _ _ hex
      have hun0 : li.getD i0 false = false := by simpa using hu0
      have hsz0 : i0 < li.size := by rw [inv.size]; omega
      obtain ⟨o0, d0, ho0, _, _, _, hback, _⟩ := headB_at hh hi0
      have hready0 : i0 ∈ Region.ready md ops li := mem_ready.2 ⟨getD_in hsz0 hun0, o0, ho0, fun e he hb => by
        have := hleast e.on (hback e he hb)
        simpa using this⟩
      have hl0 : lt i0 = false := by
        cases h : lt i0 with
        | false => rfl
        | true => exact absurd ⟨i0, hi0, h, hready0⟩ hlr
      refine ⟨fun h => (by rw [h] at hready0; cases hready0), fun i hi => ?_⟩
      have hin : i < n := (Nat.lt_or_ge i n).elim id fun h => absurd hi (tail_waitsL hs hc hn inv _ i0 rfl hi0 hl0 (getD_in hsz0 hun0) i h)
      have hli : lt i = false := by
        cases h : lt i with
        | false => rfl
        | true => exact absurd ⟨i, hin, h, hi⟩ hlr
      obtain ⟨hun, o, ho, hdeps⟩ := mem_ready.1 hi
      obtain ⟨o', d, ho', hg, hd, hds, _, huniq⟩ := headB_at hh hin
      obtain rfl : o' = o := Option.some.inj (ho'.symm.trans ho)
      have hdst : dstAt ops i = some d := by simp [dstAt, ho, hd]
      have hszi : i < li.size := by rw [inv.size]; omega
      unfold wpOp
      simp only [ho]
      rw [if_pos (by simp [Region.wanted, hg])]
      refine .inl (Oper.wp_mono ?_ (hob i o' hin hli ho a w hI.e (fun s hs => hI.ag s fun j hj => by simpa using List.all_eq_true.1 hs j (List.mem_range.2 hj)) (hdone i hin o' ho hdeps)))
      rintro a' w' ⟨v, rfl, hAv, hb, hfr⟩
      rw [hd]
      exact ih _ _ _ (inv.set hi hin) (hI.step hE hA hin hdst hds huniq (getD_both hun) hszi hAv hb hfr) (by have := todo_set hin hszi (getD_both hun); omega)

/-- THE RULE, with late ones. -/
theorem wp_region_late {id : Nat} {Q : Exit → Act → World → Prop} {a0 : Act} {w0 : World} {l : List Oper} (n : Nat) (lt : Nat → Bool) (A : Nat → Value → World → Prop) (fr : Nat → Bool) (E : World → Prop)
    (hm : P.follows .mixedOrders = true) (hB : relLB .any l.toArray n a0.tmps.size lt = true) (hQ : ∀ c (a : Act) (d : Tmp) v w, Q (.panic c) (a.put (some d) v) w → Q (.panic c) a w)
    (hE : ∀ w w', Below w.heap.size w w' → E w → E w') (hA : ∀ j v w w', Below w.heap.size w w' → A j v w → A j v w')
    (hE0 : E w0.drew) (hob : ∀ i o, i < n → lt i = false → l[i]? = some o → RelOb P .any l.toArray n A fr E a0 Q i o)
    (hlate : ∀ i o, i < n → lt i = true → l[i]? = some o → ∀ a w, E w → (∀ e ∈ o.after, Region.binds .any e = true → A e.on (slotOf l.toArray a e.on) w) → fr i = false ∧ ∃ v, A i v w ∧ ∀ u, (execOp a.eval o).run P u = .ok (.value v) u)
    (hend : ∀ (vs : Nat → Value) w, E w → (∀ i, i < n → A i (vs i) w) → (∀ i j, i < n → j < n → i ≠ j → fr i = true → fr j = true → vs i ≠ vs j) → wpList P l.toArray Q (l.drop n) (putAll l.toArray a0 vs n) w) : (Code.region id l.toArray true).wp P Q a0 w0 := by
  have hB' := hB
  simp only [relLB, Bool.and_eq_true, decide_eq_true_eq] at hB'
  have hn : n < l.toArray.size := hB'.1.1.1.1.1.1.1
  have hhd := hB'.1.1.1.2
  have hn' : n < l.length := by simpa using hn
  have hrep : ∀ j, (Array.replicate l.toArray.size false).getD j false = false := fun j => getD_replicate_false _ _
  have inv0 : HeadInv .any l.toArray n (Array.replicate l.toArray.size false) :=
    ⟨by simp, fun j oj _ hl => (by rw [hrep] at hl; cases hl), fun t _ ht => getD_in (by simpa using ht) (hrep t)⟩
  have htodo : todo (Array.replicate l.toArray.size false) n = n := by
    unfold todo
    rw [List.filter_eq_self.2 (fun i _ => by rw [hrep]; rfl)]
    simp
  have := any_of_late (md := .any) (Q := Q) hB hQ hE hA (fun i o hi hl ho => hob i o hi hl (by simpa using ho)) (fun i o hi hl ho => hlate i o hi hl (by simpa using ho)) (fun a w hI => by
      have hf := hI.frame hhd
      rw [hf]
      simpa using hend (slotOf l.toArray a) w hI.e (fun i hi => hI.hold i hi (fullL_get hi)) (fun i j hi hj hij h1 h2 => hI.ne i j hi hj hij (fullL_get hi) (fullL_get hj) h1 h2)) n _ a0 w0.drew inv0
    (RelInv.mk hE0 rfl rfl (fun _ _ => rfl) (fun i _ hl => (by rw [hrep] at hl; cases hl)) (fun i _ hl => (by rw [hrep] at hl; cases hl)) (fun i j _ _ _ hl => (by rw [hrep] at hl; cases hl))) htodo
  rw [show n + (l.toArray.size - n) = l.toArray.size by omega] at this
  exact wp_region_any hm this
end
end Go.Proofs.YtilninaminaadaaGreatDoor
