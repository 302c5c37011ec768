/- A region that draws its order: all operations but the last few read (or call what gives one value in every world of a class), the last few are forced. One walk in the text's order serves every order. -/
import Derived.StillTailTactics
import Derived.Deep.QuietTactic
import Derived.BigQuiet
import Derived.WalkKit
namespace Go.Proofs.YtilninaminaadaaGreatDoor
open Go.RowKit
section
variable {P : Program} {ops : Array Oper} {md : Region.Mode} {C : World → Prop}

/-- The first f operations come up in whatever order, each of them one of the first n; then L holds. -/
def headQ (P : Program) (md : Region.Mode) (ops : Array Oper) (C : World → Prop) (n : Nat) (L : Array Bool → Act → Prop) : Nat → Array Bool → Act → Prop
  | 0, li, a => L li a
  | f + 1, li, a => Region.ready md ops li ≠ [] ∧ ∀ i ∈ Region.ready md ops li, i < n ∧ qOp P ops C i (headQ P md ops C n L f (li.setIfInBounds i true)) a

theorem any_of_headQ {n g : Nat} {L : Array Bool → Act → Prop} {Q : Exit → Act → World → Prop} (hL : ∀ li a w, C w → L li a → wpAny P md ops Q g li a w) (f : Nat) :
    ∀ (li : Array Bool) (a : Act) (w : World), C w → headQ P md ops C n L f li a → wpAny P md ops Q (f + g) li a w := by
  induction f with
  | zero => intro li a w hw h; rw [Nat.zero_add]; exact hL _ _ _ hw h
  | succ f ih =>
    intro li a w hw h
    rw [Nat.succ_add_eq_add_succ, Nat.add_succ]
    exact ⟨fun h0 => absurd h0 h.1, fun i hi => wpOp_of_qOp hw (fun a' w' hw' h' => ih _ a' w' hw' h') (h.2 i hi).2⟩

/-- Only head operations are ready while one of them is left. -/
theorem ready_head {n i : Nat} {li : Array Bool} (hs : Region.sinkB md ops n = true) (hc : Region.chainB md ops n = true) (hn : n < ops.size) (hin : i < n) (inv : HeadInv md ops n li)
    (hr : i ∈ Region.ready md ops li) : ∀ j ∈ Region.ready md ops li, j < n := fun j hj =>
  (Nat.lt_or_ge j n).elim id fun h => absurd hj (tail_waits hs hc hn inv _ i rfl hin (mem_ready.1 hr).1 j h)

/-- A ready operation that all others wait for or are apart from may come first. -/
theorem headQ_first {n i : Nat} {oi : Oper} {v : Value} {L : Array Bool → Act → Prop} (hi : ops[i]? = some oi) (hsel : ∀ (j : Nat) (o : Oper) cs b, ops[j]? = some o → o.op ≠ .select cs b)
    (hs : Region.sinkB md ops n = true) (hc : Region.chainB md ops n = true) (hn : n < ops.size) (hin : i < n) (hL : ∀ li a, L li a → ∀ j ∈ Region.ready md ops li, n ≤ j) (f : Nat) :
    ∀ (li : Array Bool) (a : Act), HeadInv md ops n li →
      (∀ j oj, ops[j]? = some oj → j ≠ i → li.getD j true = false → (∀ e ∈ oj.after, Region.binds md e = true → e.on ≠ i) → oi.apart ops oj = true) →
      i ∈ Region.ready md ops li → YieldsIn P ops C oi v a → headQ P md ops C n L f (li.setIfInBounds i true) (a.put oi.dst v) → headQ P md ops C n L (f + 1) li a := by
  induction f with
  | zero =>
    intro li a inv _ hr hy H
    refine ⟨List.ne_nil_of_mem hr, fun j hj => ⟨ready_head hs hc hn hin inv hr j hj, ?_⟩⟩
    rcases Nat.decEq j i with hne | rfl
    · have h1 := hL _ _ H j (ready_mono hj hne)
      have h2 := ready_head hs hc hn hin inv hr j hj
      omega
    · exact hy.qOp hi H
  | succ f ih =>
    intro li a inv hfree hr hy H
    have hjn := ready_head hs hc hn hin inv hr
    refine ⟨List.ne_nil_of_mem hr, fun j hj => ⟨hjn j hj, ?_⟩⟩
    rcases Nat.decEq j i with hne | rfl
    · obtain ⟨hju, oj, hoj, hall⟩ := mem_ready.1 hj
      have hno : ∀ e ∈ oj.after, Region.binds md e = true → e.on ≠ i := fun e he hb heq => by
        have := hall e he hb
        rw [heq, getD_both (mem_ready.1 hr).1] at this
        cases this
      have hput := qOp_put hoj (hfree j oj hoj hne hju hno) (fun cs b => hsel i oi cs b hi) (fun cs b => hsel j oj cs b hoj) hy (H.2 j (ready_mono hj hne)).2
      refine qOp_mono (fun a' h3 => ih _ a' (inv.set hj (hjn j hj)) (fun k ok hk hki hu hno' => hfree k ok hk hki ?_ hno') (ready_mono hr (Ne.symm hne)) h3.1 ?_) hput
      · rcases Nat.decEq j k with hjk | rfl
        · rwa [getD_set_ne true hjk] at hu
        · exact hju
      · rw [Array.setIfInBounds_comm _ _ hne]; exact h3.2
    · exact hy.qOp hi H

/-- The head in the text's order. -/
theorem headQ_lex {n g : Nat} {R : Act → Prop} (hsel : Region.noSelect ops = true) (hs : Region.sinkB md ops n = true) (hc : Region.chainB md ops n = true) (hn : n < ops.size) (l : List Oper) :
    ∀ (k : Nat) (li : Array Bool) (a : Act), (∀ j, j < l.length → l[j]? = ops[k + j]?) → k + l.length = n → HeadInv md ops n li → Region.lexHead md ops g l.length k li = true →
      wpQuiet P ops C R l a → headQ P md ops C n (fun li' a' => Region.seqB md ops g n li' = true ∧ R a') l.length li a := by
  induction l with
  | nil =>
    intro k li a _ hk _ hB h
    obtain rfl : k = n := by simpa using hk
    exact ⟨by simpa [Region.lexHead] using hB, h⟩
  | cons o l ih =>
    intro k li a hl hk inv hB h
    have h0 : ops[k]? = some o := by simpa using (hl 0 (by simp)).symm
    simp only [List.length_cons, Region.lexHead, Bool.and_eq_true] at hB
    have hk' : k + 1 + l.length = n := by simp only [List.length_cons] at hk; omega
    have hr : k ∈ Region.ready md ops li := by simpa using hB.1.1
    obtain ⟨v, hy, hK⟩ := yieldsIn_of_qOp (K := wpQuiet P ops C R l) h0 (by unfold qOp; simp only [h0]; exact h)
    exact headQ_first h0 (Region.noSelect_spec hsel) hs hc hn (by omega) (fun _ _ hL => seqB_ready hL.1) l.length li a inv (Region.free_spec h0 hB.1.2) hr hy
      (ih (k + 1) _ _ (fun j hj => by have := hl (j + 1) (by simp; omega); simpa [Nat.add_assoc, Nat.add_comm 1 j] using this) hk' (inv.set hr (by omega)) hB.2 hK)

/-- THE RULE. z0: the world in which the region begins, drawn once, is of the class. -/
theorem wp_region_tail {id : Nat} {Q : Exit → Act → World → Prop} {a : Act} {w : World} {l : List Oper} {ι : Type} (φ : ι → World) (n : Nat) (hm : P.follows .mixedOrders = true) (hB : Region.lexTailB .any l.toArray n = true)
    (z0 : ι) (hz : w.drew = φ z0) (h : wpQuiet P l.toArray (fun w' => ∃ z, w' = φ z) (fun a' => ∀ z, wpList P l.toArray Q (l.drop n) a' (φ z)) (l.take n) a) : (Code.region id l.toArray true).wp P Q a w := by
  simp only [Region.lexTailB, Bool.and_eq_true, decide_eq_true_eq] at hB
  obtain ⟨⟨⟨⟨hsel, hn⟩, hs⟩, hc⟩, hlex⟩ := hB
  have hnl : n < l.length := by simpa using hn
  have htl : (l.take n).length = n := by simp; omega
  have hdl : (l.drop n).length = l.toArray.size - n := by simp
  have inv0 : HeadInv .any l.toArray n (Array.replicate l.toArray.size false) :=
    ⟨by simp, fun j oj _ hl => (by rw [getD_replicate_false] at hl; cases hl), fun t _ ht => getD_in (by simpa using ht) (getD_replicate_false _ _)⟩
  have H := headQ_lex (C := fun w' => ∃ z, w' = φ z) (md := .any) (g := l.toArray.size - n) hsel hs hc hn (l.take n) 0 _ a (fun j hj => by rw [htl] at hj; simp [hj]) (by simpa using htl) inv0 (by rw [htl]; exact hlex) h
  have := any_of_headQ (Q := Q) (g := l.toArray.size - n) (fun li a' w' hw' hL => by
    obtain ⟨z, rfl⟩ := hw'
    have := wpAny_of_seq (md := .any) (Q' := Q) (l.drop n) n li a' (φ z) (fun j => by simp [List.getElem?_drop]) (by rw [hdl]; exact hL.1) (hL.2 z)
    rwa [hdl] at this) _ _ _ _ ⟨z0, hz⟩ H
  rw [htl, show n + (l.toArray.size - n) = l.toArray.size by omega] at this
  exact wp_region_any hm this

/-- The same for a region that only reads and calls: no tail. -/
theorem wp_region_all {id : Nat} {Q : Exit → Act → World → Prop} {a : Act} {w : World} {l : List Oper} {ι : Type} (φ : ι → World) (hm : P.follows .mixedOrders = true) (hB : Region.lexB .any l.toArray = true)
    (z0 : ι) (hz : w.drew = φ z0) (h : wpQuiet P l.toArray (fun w' => ∃ z, w' = φ z) (fun a' => ∀ z, Q .normal a' (φ z)) l a) : (Code.region id l.toArray true).wp P Q a w :=
  wp_region_quiet (C := fun w' => ∃ z, w' = φ z) hm hB ⟨z0, hz⟩ (by
    have e : (fun a' => ∀ w', (∃ z, w' = φ z) → Q .normal a' w') = (fun a' => ∀ z, Q .normal a' (φ z)) := by
      funext a'; apply propext; constructor
      · intro h z; exact h _ ⟨z, rfl⟩
      · rintro h _ ⟨z, rfl⟩; exact h z
    rw [e]; simpa using h)
end

/-- The class of worlds that are as w0 below block B. -/
def BW (B : Nat) (w0 : World) : Type := { w' : World // Below B w0 w' }
def BW.w {B : Nat} {w0 : World} (z : BW B w0) : World := z.1
theorem BW.below {B : Nat} {w0 : World} (z : BW B w0) : Below B w0 z.w := z.2
@[go_sem] theorem BW.cell {B : Nat} {w0 : World} (z : BW B w0) (b o : Nat) (h : b < B) : z.w.cell? ⟨b, o, none⟩ = w0.cell? ⟨b, o, none⟩ := z.2.cell (p := ⟨b, o, none⟩) h
@[go_sem] theorem BW.frozen {B : Nat} {w0 : World} (z : BW B w0) (b o : Nat) (h : b < B) : z.w.frozen? ⟨b, o, none⟩ = w0.frozen? ⟨b, o, none⟩ := z.2.frozen (p := ⟨b, o, none⟩) h
def BW.start (w0 : World) (B : Nat) : BW B w0 := ⟨w0.drew, (Below.refl _ _).drew⟩
instance BW.some (B : Nat) (w0 : World) : Nonempty (BW B w0) := ⟨BW.start w0 B⟩
theorem BW.start_w (w0 : World) (B : Nat) : w0.drew = (BW.start w0 B).w := rfl
/-- A call inside such a region: its contract gives one value, and keeps what was there. -/
theorem BW.call {P : Program} {f : FuncId} {args : Array Value} {B : Nat} {w0 : World} (hB : B ≤ w0.heap.size) (z : BW B w0) {v : Value}
    (h : Calls P f args z.w fun e w' => e = .returned v ∧ Below z.w.heap.size z.w w') : Calls P f args z.w fun e w'' => e = .returned v ∧ ∃ z' : BW B w0, w'' = z'.w :=
  h.mono fun _ w'' ⟨he, hb⟩ => ⟨he, ⟨⟨w'', z.2.trans (hb.mono (Nat.le_trans hB z.2.size))⟩, rfl⟩⟩
theorem BW.call_same {P : Program} {f : FuncId} {args : Array Value} {B : Nat} {w0 : World} (z : BW B w0) {v : Value}
    (h : Calls P f args z.w fun e w' => e = .returned v ∧ z.w = w') : Calls P f args z.w fun e w'' => e = .returned v ∧ ∃ z' : BW B w0, w'' = z'.w :=
  h.mono fun _ _ ⟨he, hw⟩ => ⟨he, ⟨z, hw.symm⟩⟩
end Go.Proofs.YtilninaminaadaaGreatDoor
