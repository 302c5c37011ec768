/- A region that draws its order, makes memory and has no last operation: each operation is looked at ONCE; the region ends when all have run. -/
import Derived.Test.YtemlabmmafcapaaGreatDoorGrd
namespace Go.Proofs.YtemlabmmafcapaaGreatDoor
open Go.RowKit
section
variable {P : Program} {ops : Array Oper} {md : Region.Mode}

theorem any_of_all {Q : Exit → Act → World → Prop} {n : Nat} {A : Nat → Value → World → Prop} {fr : Nat → Bool} {E : World → Prop} {a0 : Act} (hn : n = ops.size)
    (hh : headGB md ops n a0.tmps.size = true)
    (hE : ∀ w w', Below w.heap.size w w' → E w → E w') (hA : ∀ j v w w', Below w.heap.size w w' → A j v w → A j v w')
    (hob : ∀ i o, i < n → ops[i]? = some o → RelObG P md ops n A fr E a0 Q i o)
    (hend : ∀ a w, RelInv ops n A fr E a0 (fullL ops.size n) a w → Q .normal a w) (f : Nat) :
    ∀ li a w, HeadInv md ops n li → RelInv ops n A fr E a0 li a w → todo li n = f → wpAny P md ops Q f li a w := by
  induction f with
  | zero =>
    intro li a w inv hI htodo
    have hall : ∀ i, i < n → li.getD i false = true := by
      intro i hi
      cases hl : li.getD i false with
      | true => rfl
      | false =>
        have : i ∈ (List.range n).filter fun i => !li.getD i false := List.mem_filter.2 ⟨List.mem_range.2 hi, by rw [hl]; rfl⟩
        have := List.length_pos_of_mem this
        unfold todo at htodo
        omega
    have hfull : li = fullL ops.size n := by
      apply Array.ext
      · rw [inv.size]; simp [fullL]; omega
      · intro i h1 h2
        have hi : i < n := by rw [hn, ← inv.size]; exact h1
        have := hall i hi
        simp [h1] at this
        simp [fullL, hi, this]
    refine ⟨?_, hend a w (hfull ▸ hI)⟩
    cases hr : Region.ready md ops li with
    | nil => rfl
    | cons i r =>
      have hi : i ∈ Region.ready md ops li := by rw [hr]; simp
      obtain ⟨hun, o, ho, _⟩ := mem_ready.1 hi
      have hin : i < n := by rw [hn]; exact (Array.getElem?_eq_some_iff.1 ho).1
      have h1 := hall i hin
      rw [getD_both hun] at h1
      cases h1
  | succ f ih =>
    intro li a w inv hI htodo
    have hdone : ∀ i, i < n → ∀ o, ops[i]? = some o → (∀ e ∈ o.after, Region.binds md e = true → li.getD e.on false = true) → ∀ e ∈ o.after, Region.binds md e = true → A e.on (slotOf ops a e.on) w := by
      intro i hi o ho hd e he hb
      have h1 := hd e he hb
      refine hI.hold _ ?_ h1
      rcases Nat.lt_or_ge e.on n with h | h
      · exact h
      · have : li.size ≤ e.on := by rw [inv.size, ← hn]; exact h
        simp [Array.getElem?_eq_none this] at h1
    have hex : ∃ i, i < n ∧ (!li.getD i false) = true := by
      have : 0 < ((List.range n).filter fun i => !li.getD i false).length := by unfold todo at htodo; omega
      obtain ⟨i, hi⟩ := List.exists_mem_of_length_pos this
      simp at hi
      exact ⟨i, hi.1, by simp [hi.2]⟩
    obtain ⟨i0, hi0, hu0, hleast⟩ := exists_least _ _ hex
    have hun0 : li.getD i0 false = false := by simpa using hu0
    have hsz0 : i0 < li.size := by rw [inv.size]; omega
    obtain ⟨o0, d0, ho0, _, _, hback, _⟩ := headGB_at hh hi0
    have hready0 : i0 ∈ Region.ready md ops li := mem_ready.2 ⟨getD_in hsz0 hun0, o0, ho0, fun e he hb => by
      have := hleast e.on (hback e he hb)
      simpa using this⟩
    refine ⟨fun h => (by rw [h] at hready0; cases hready0), fun i hi => ?_⟩
    obtain ⟨hun, o, ho, hdeps⟩ := mem_ready.1 hi
    have hin : i < n := by rw [hn]; exact (Array.getElem?_eq_some_iff.1 ho).1
    obtain ⟨o', d, ho', hd, hds, _, huniq⟩ := headGB_at hh hin
    obtain rfl : o' = o := Option.some.inj (ho'.symm.trans ho)
    have hdst : dstAt ops i = some d := by simp [dstAt, ho, hd]
    have hszi : i < li.size := by rw [inv.size]; omega
    have hobi := hob i o' hin ho a w hI.e (fun s hs => hI.ag s fun j hj => by simpa using List.all_eq_true.1 hs j (List.mem_range.2 hj)) (hdone i hin o' ho hdeps)
    have hstep : ∀ a' w', RelPost A fr i o' a w a' w' → wpAny P md ops Q f (li.setIfInBounds i true) a' w' := by
      rintro a' w' ⟨v, rfl, hAv, hb, hfr⟩
      rw [hd]
      exact ih _ _ _ (inv.set hi hin) (hI.step hE hA hin hdst hds huniq (getD_both hun) hszi hAv hb hfr) (by have := todo_set hin hszi (getD_both hun); omega)
    unfold wpOp
    simp only [ho]
    cases hw : Region.wanted o' (yielded ops a.tmps)
    · rw [if_neg (by simp)]
      rw [hw, if_neg (by simp)] at hobi
      exact hstep _ _ hobi
    · rw [if_pos rfl]
      rw [hw, if_pos rfl] at hobi
      exact .inl (Oper.wp_mono hstep hobi)

/-- THE RULE, with no last operation. -/
theorem wp_region_whole {id : Nat} {Q : Exit → Act → World → Prop} {a0 : Act} {w0 : World} {l : List Oper} (n : Nat) (A : Nat → Value → World → Prop) (fr : Nat → Bool) (E : World → Prop)
    (hm : P.follows .mixedOrders = true) (hB : (decide (n = l.toArray.size) && headGB .any l.toArray n a0.tmps.size) = true)
    (hE : ∀ w w', Below w.heap.size w w' → E w → E w') (hA : ∀ j v w w', Below w.heap.size w w' → A j v w → A j v w')
    (hE0 : E w0.drew) (hob : ∀ i o, i < n → l[i]? = some o → RelObG P .any l.toArray n A fr E a0 Q i o)
    (hend : ∀ (vs : Nat → Value) w, E w → (∀ i, i < n → A i (vs i) w) → (∀ i j, i < n → j < n → i ≠ j → fr i = true → fr j = true → vs i ≠ vs j) → Q .normal (putAll l.toArray a0 vs n) w) : (Code.region id l.toArray true).wp P Q a0 w0 := by
  simp only [Bool.and_eq_true, decide_eq_true_eq] at hB
  obtain ⟨hn, hhd⟩ := hB
  have hrep : ∀ j, (Array.replicate l.toArray.size false).getD j false = false := fun j => getD_replicate_false _ _
  have inv0 : HeadInv .any l.toArray n (Array.replicate l.toArray.size false) :=
    ⟨by simp, fun j oj _ hl => (by rw [hrep] at hl; cases hl), fun t _ ht => getD_in (by simpa using ht) (hrep t)⟩
  have htodo : todo (Array.replicate l.toArray.size false) n = n := by
    unfold todo
    rw [List.filter_eq_self.2 (fun i _ => by rw [hrep]; rfl)]
    simp
  have := any_of_all (md := .any) (Q := Q) hn hhd hE hA (fun i o hi ho => hob i o hi (by simpa using ho)) (fun a w hI => by
      have hf := hI.frameG hhd
      rw [hf]
      exact hend (slotOf l.toArray a) w hI.e (fun i hi => hI.hold i hi (fullL_get hi)) (fun i j hi hj hij h1 h2 => hI.ne i j hi hj hij (fullL_get hi) (fullL_get hj) h1 h2)) n _ a0 w0.drew inv0
    (RelInv.mk hE0 rfl rfl (fun _ _ => rfl) (fun i _ hl => (by rw [hrep] at hl; cases hl)) (fun i _ hl => (by rw [hrep] at hl; cases hl)) (fun i j _ _ _ hl => (by rw [hrep] at hl; cases hl))) htodo
  rw [hn] at this
  exact wp_region_any hm this
end
end Go.Proofs.YtemlabmmafcapaaGreatDoor
