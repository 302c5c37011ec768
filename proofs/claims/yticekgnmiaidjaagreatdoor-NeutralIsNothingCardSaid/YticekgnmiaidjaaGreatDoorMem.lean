/- Rows of singles in memory: a row that a call has made, a slice that came in. -/
import Derived.StillTailTactics
import Derived.Deep.QuietTactic
import Derived.BigQuiet
import Derived.WalkKit
import Derived.Test.YticekgnmiaidjaaGreatDoorRg
import Derived.Deep.DeepCutAuto
import Derived.Deep.DeepFit
import Derived.Lib.Hide
namespace Go.Proofs.YticekgnmiaidjaaGreatDoor

section
open Go.RowKit
section
variable {P : Program} {ops : Array Oper} {md : Region.Mode} {C : World → Prop}

/-- The first f operations come up in whatever order, each of them one of the first n; then L holds. -/
def headQ (P : Program) (md : Region.Mode) (ops : Array Oper) (C : World → Prop) (n : Nat) (L : Array Bool → Act → Prop) : Nat → Array Bool → Act → Prop
  | 0, li, a => L li a
  | f + 1, li, a => Region.ready md ops li ≠ [] ∧ ∀ i ∈ Region.ready md ops li, i < n ∧ qOp P ops C i (headQ P md ops C n L f (li.setIfInBounds i true)) a

theorem any_of_headQ {n g : Nat} {L : Array Bool → Act → Prop} {Q : Exit → Act → World → Prop} (hL : ∀ li a w, C w → L li a → wpAny P md ops Q g li a w) (f : Nat) :
    ∀ (li : Array Bool) (a : Act) (w : World), C w → headQ P md ops C n L f li a → wpAny P md ops Q (f + g) li a w := by
  induction f with
  | zero => intro li a w hw h; rw [Nat.zero_add]; exact hL _ _ _ hw h
  | succ f ih =>
    intro li a w hw h
    rw [Nat.succ_add_eq_add_succ, Nat.add_succ]
    exact ⟨fun h0 => absurd h0 h.1, fun i hi => wpOp_of_qOp hw (fun a' w' hw' h' => ih _ a' w' hw' h') (h.2 i hi).2⟩

/-- Only head operations are ready while one of them is left. -/
theorem ready_head {n i : Nat} {li : Array Bool} (hs : Region.sinkB md ops n = true) (hc : Region.chainB md ops n = true) (hn : n < ops.size) (hin : i < n) (inv : HeadInv md ops n li)
    (hr : i ∈ Region.ready md ops li) : ∀ j ∈ Region.ready md ops li, j < n := fun j hj =>
  (Nat.lt_or_ge j n).elim id fun h => absurd hj (tail_waits hs hc hn inv _ i rfl hin (mem_ready.1 hr).1 j h)

/-- A ready operation that all others wait for or are apart from may come first. -/
theorem headQ_first {n i : Nat} {oi : Oper} {v : Value} {L : Array Bool → Act → Prop} (hi : ops[i]? = some oi) (hsel : ∀ (j : Nat) (o : Oper) cs b, ops[j]? = some o → o.op ≠ .select cs b)
    (hs : Region.sinkB md ops n = true) (hc : Region.chainB md ops n = true) (hn : n < ops.size) (hin : i < n) (hL : ∀ li a, L li a → ∀ j ∈ Region.ready md ops li, n ≤ j) (f : Nat) :
    ∀ (li : Array Bool) (a : Act), HeadInv md ops n li →
      (∀ j oj, ops[j]? = some oj → j ≠ i → li.getD j true = false → (∀ e ∈ oj.after, Region.binds md e = true → e.on ≠ i) → oi.apart ops oj = true) →
      i ∈ Region.ready md ops li → YieldsIn P ops C oi v a → headQ P md ops C n L f (li.setIfInBounds i true) (a.put oi.dst v) → headQ P md ops C n L (f + 1) li a := by
  induction f with
  | zero =>
    intro li a inv _ hr hy H
    refine ⟨List.ne_nil_of_mem hr, fun j hj => ⟨ready_head hs hc hn hin inv hr j hj, ?_⟩⟩
    rcases Nat.decEq j i with hne | rfl
    · have h1 := hL _ _ H j (ready_mono hj hne)
      have h2 := ready_head hs hc hn hin inv hr j hj
      omega
    · exact hy.qOp hi H
  | succ f ih =>
    intro li a inv hfree hr hy H
    have hjn := ready_head hs hc hn hin inv hr
    refine ⟨List.ne_nil_of_mem hr, fun j hj => ⟨hjn j hj, ?_⟩⟩
    rcases Nat.decEq j i with hne | rfl
    · obtain ⟨hju, oj, hoj, hall⟩ := mem_ready.1 hj
      have hno : ∀ e ∈ oj.after, Region.binds md e = true → e.on ≠ i := fun e he hb heq => by
        have := hall e he hb
        rw [heq, getD_both (mem_ready.1 hr).1] at this
        cases this
      have hput := qOp_put hoj (hfree j oj hoj hne hju hno) (fun cs b => hsel i oi cs b hi) (fun cs b => hsel j oj cs b hoj) hy (H.2 j (ready_mono hj hne)).2
      refine qOp_mono (fun a' h3 => ih _ a' (inv.set hj (hjn j hj)) (fun k ok hk hki hu hno' => hfree k ok hk hki ?_ hno') (ready_mono hr (Ne.symm hne)) h3.1 ?_) hput
      · rcases Nat.decEq j k with hjk | rfl
        · rwa [getD_set_ne true hjk] at hu
        · exact hju
      · rw [Array.setIfInBounds_comm _ _ hne]; exact h3.2
    · exact hy.qOp hi H

/-- The head in the text's order. -/
theorem headQ_lex {n g : Nat} {R : Act → Prop} (hsel : Region.noSelect ops = true) (hs : Region.sinkB md ops n = true) (hc : Region.chainB md ops n = true) (hn : n < ops.size) (l : List Oper) :
    ∀ (k : Nat) (li : Array Bool) (a : Act), (∀ j, j < l.length → l[j]? = ops[k + j]?) → k + l.length = n → HeadInv md ops n li → Region.lexHead md ops g l.length k li = true →
      wpQuiet P ops C R l a → headQ P md ops C n (fun li' a' => Region.seqB md ops g n li' = true ∧ R a') l.length li a := by
  induction l with
  | nil =>
    intro k li a _ hk _ hB h
    obtain rfl : k = n := by simpa using hk
    exact ⟨by simpa [Region.lexHead] using hB, h⟩
  | cons o l ih =>
    intro k li a hl hk inv hB h
    have h0 : ops[k]? = some o := by simpa using (hl 0 (by simp)).symm
    simp only [List.length_cons, Region.lexHead, Bool.and_eq_true] at hB
    have hk' : k + 1 + l.length = n := by simp only [List.length_cons] at hk; omega
    have hr : k ∈ Region.ready md ops li := by simpa using hB.1.1
    obtain ⟨v, hy, hK⟩ := yieldsIn_of_qOp (K := wpQuiet P ops C R l) h0 (by unfold qOp; simp only [h0]; exact h)
    exact headQ_first h0 (Region.noSelect_spec hsel) hs hc hn (by omega) (fun _ _ hL => seqB_ready hL.1) l.length li a inv (Region.free_spec h0 hB.1.2) hr hy
      (ih (k + 1) _ _ (fun j hj => by have := hl (j + 1) (by simp; omega); simpa [Nat.add_assoc, Nat.add_comm 1 j] using this) hk' (inv.set hr (by omega)) hB.2 hK)

/-- THE RULE. z0: the world in which the region begins, drawn once, is of the class. -/
theorem wp_region_tail {id : Nat} {Q : Exit → Act → World → Prop} {a : Act} {w : World} {l : List Oper} {ι : Type} (φ : ι → World) (n : Nat) (hm : P.follows .mixedOrders = true) (hB : Region.lexTailB .any l.toArray n = true)
    (z0 : ι) (hz : w.drew = φ z0) (h : wpQuiet P l.toArray (fun w' => ∃ z, w' = φ z) (fun a' => ∀ z, wpList P l.toArray Q (l.drop n) a' (φ z)) (l.take n) a) : (Code.region id l.toArray true).wp P Q a w := by
  simp only [Region.lexTailB, Bool.and_eq_true, decide_eq_true_eq] at hB
  obtain ⟨⟨⟨⟨hsel, hn⟩, hs⟩, hc⟩, hlex⟩ := hB
  have hnl : n < l.length := by simpa using hn
  have htl : (l.take n).length = n := by simp; omega
  have hdl : (l.drop n).length = l.toArray.size - n := by simp
  have inv0 : HeadInv .any l.toArray n (Array.replicate l.toArray.size false) :=
    ⟨by simp, fun j oj _ hl => (by rw [getD_replicate_false] at hl; cases hl), fun t _ ht => getD_in (by simpa using ht) (getD_replicate_false _ _)⟩
  have H := headQ_lex (C := fun w' => ∃ z, w' = φ z) (md := .any) (g := l.toArray.size - n) hsel hs hc hn (l.take n) 0 _ a (fun j hj => by rw [htl] at hj; simp [hj]) (by simpa using htl) inv0 (by rw [htl]; exact hlex) h
  have := any_of_headQ (Q := Q) (g := l.toArray.size - n) (fun li a' w' hw' hL => by
    obtain ⟨z, rfl⟩ := hw'
    have := wpAny_of_seq (md := .any) (Q' := Q) (l.drop n) n li a' (φ z) (fun j => by simp [List.getElem?_drop]) (by rw [hdl]; exact hL.1) (hL.2 z)
    rwa [hdl] at this) _ _ _ _ ⟨z0, hz⟩ H
  rw [htl, show n + (l.toArray.size - n) = l.toArray.size by omega] at this
  exact wp_region_any hm this

/-- The same for a region that only reads and calls: no tail. -/
theorem wp_region_all {id : Nat} {Q : Exit → Act → World → Prop} {a : Act} {w : World} {l : List Oper} {ι : Type} (φ : ι → World) (hm : P.follows .mixedOrders = true) (hB : Region.lexB .any l.toArray = true)
    (z0 : ι) (hz : w.drew = φ z0) (h : wpQuiet P l.toArray (fun w' => ∃ z, w' = φ z) (fun a' => ∀ z, Q .normal a' (φ z)) l a) : (Code.region id l.toArray true).wp P Q a w :=
  wp_region_quiet (C := fun w' => ∃ z, w' = φ z) hm hB ⟨z0, hz⟩ (by
    have e : (fun a' => ∀ w', (∃ z, w' = φ z) → Q .normal a' w') = (fun a' => ∀ z, Q .normal a' (φ z)) := by
      funext a'; apply propext; constructor
      · intro h z; exact h _ ⟨z, rfl⟩
      · rintro h _ ⟨z, rfl⟩; exact h z
    rw [e]; simpa using h)
end

/-- The class of worlds that are as w0 below block B. -/
def BW (B : Nat) (w0 : World) : Type := { w' : World // Below B w0 w' }
def BW.w {B : Nat} {w0 : World} (z : BW B w0) : World := z.1
theorem BW.below {B : Nat} {w0 : World} (z : BW B w0) : Below B w0 z.w := z.2
@[go_sem] theorem BW.cell {B : Nat} {w0 : World} (z : BW B w0) (b o : Nat) (h : b < B) : z.w.cell? ⟨b, o, none⟩ = w0.cell? ⟨b, o, none⟩ := z.2.cell (p := ⟨b, o, none⟩) h
@[go_sem] theorem BW.frozen {B : Nat} {w0 : World} (z : BW B w0) (b o : Nat) (h : b < B) : z.w.frozen? ⟨b, o, none⟩ = w0.frozen? ⟨b, o, none⟩ := z.2.frozen (p := ⟨b, o, none⟩) h
def BW.start (w0 : World) (B : Nat) : BW B w0 := ⟨w0.drew, (Below.refl _ _).drew⟩
instance BW.some (B : Nat) (w0 : World) : Nonempty (BW B w0) := ⟨BW.start w0 B⟩
theorem BW.start_w (w0 : World) (B : Nat) : w0.drew = (BW.start w0 B).w := rfl
/-- A call inside such a region: its contract gives one value, and keeps what was there. -/
theorem BW.call {P : Program} {f : FuncId} {args : Array Value} {B : Nat} {w0 : World} (hB : B ≤ w0.heap.size) (z : BW B w0) {v : Value}
    (h : Calls P f args z.w fun e w' => e = .returned v ∧ Below z.w.heap.size z.w w') : Calls P f args z.w fun e w'' => e = .returned v ∧ ∃ z' : BW B w0, w'' = z'.w :=
  h.mono fun _ w'' ⟨he, hb⟩ => ⟨he, ⟨⟨w'', z.2.trans (hb.mono (Nat.le_trans hB z.2.size))⟩, rfl⟩⟩
theorem BW.call_same {P : Program} {f : FuncId} {args : Array Value} {B : Nat} {w0 : World} (z : BW B w0) {v : Value}
    (h : Calls P f args z.w fun e w' => e = .returned v ∧ z.w = w') : Calls P f args z.w fun e w'' => e = .returned v ∧ ∃ z' : BW B w0, w'' = z'.w :=
  h.mono fun _ _ ⟨he, hw⟩ => ⟨he, ⟨z, hw.symm⟩⟩
end

section
open Go.RowKit

/-- Block g holds just the singles xs. -/
def Row (w : World) (g n : Nat) (xs : List Nat) : Prop :=
  xs.length = n ∧ ∃ cur : Array Value, w.heap[g]? = some (.cells cur 23 (0, 0)) ∧ cur.toList = xs.map (Value.float .f32)
/-- From cell o of block b on stand the singles xs. -/
def Rd (w : World) (b o : Nat) (xs : List Nat) : Prop := b < w.heap.size ∧ ∀ k, k < xs.length → w.cell? ⟨b, o + k, none⟩ = some (.float .f32 (xs.getD k 0))

theorem Row.len {w : World} {g n : Nat} {xs : List Nat} (h : Row w g n xs) : xs.length = n := h.1
theorem Row.lt {w : World} {g n : Nat} {xs : List Nat} (h : Row w g n xs) : g < w.heap.size := by
  obtain ⟨_, cur, h1, _⟩ := h
  exact (Array.getElem?_eq_some_iff.1 h1).1
theorem Row.cell {w : World} {g n : Nat} {xs : List Nat} (h : Row w g n xs) (k : Nat) (hk : k < n) : w.cell? ⟨g, k, none⟩ = some (.float .f32 (xs.getD k 0)) := by
  obtain ⟨hl, cur, h1, h2⟩ := h
  rw [cell_of_row w g k cur _ (0, 0) h1, ← Array.getElem?_toList, h2]
  subst hl
  simp [hk]
theorem Row.frozen {w : World} {g n : Nat} {xs : List Nat} (h : Row w g n xs) (k : Nat) : w.frozen? ⟨g, k, none⟩ = false := by
  obtain ⟨hl, cur, h1, h2⟩ := h
  exact frozen_of_row w g k cur _ h1
theorem Row.store {w : World} {g n : Nat} {xs : List Nat} (h : Row w g n xs) (k v : Nat) : Row (w.setCell ⟨g, k, none⟩ (.float .f32 v)) g n (xs.set k v) := by
  obtain ⟨hl, cur, h1, h2⟩ := h
  refine ⟨by simpa using hl, cur.setIfInBounds k (.float .f32 v), heap_setCell_same w g k cur _ _ h1, ?_⟩
  rw [Array.toList_setIfInBounds, h2, List.map_set]
theorem Row.below {B : Nat} {w w' : World} {g n : Nat} {xs : List Nat} (h : Row w g n xs) (hb : Below B w w') (hg : g < B) : Row w' g n xs := by
  obtain ⟨hl, cur, h1, h2⟩ := h
  exact ⟨hl, cur, by rw [hb.block g hg]; exact h1, h2⟩
theorem Row.keep {w w' : World} {g n : Nat} {xs : List Nat} (h : Row w g n xs) (hb : Below w.heap.size w w') : Row w' g n xs := h.below hb h.lt
theorem Row.other {w : World} {g n : Nat} {xs : List Nat} (h : Row w g n xs) (a : Addr) (v : Value) (ha : a.block ≠ g) : Row (w.setCell a v) g n xs := by
  obtain ⟨hl, cur, h1, h2⟩ := h
  exact ⟨hl, cur, by rw [Below.heap_setCell _ _ _ _ (by omega)]; exact h1, h2⟩
theorem Row.other' {w : World} {g n b o : Nat} {xs : List Nat} {v : Value} (hb : b ≠ g) (h : Row w g n xs) : Row (w.setCell ⟨b, o, none⟩ v) g n xs := h.other _ _ hb
theorem Below.set' {B b o : Nat} {a w : World} {v : Value} (hb : B ≤ b) (h : Below B a w) : Below B a (w.setCell ⟨b, o, none⟩ v) := h.setCell (p := ⟨b, o, none⟩) hb v
theorem Below.alloc' {B : Nat} {a w : World} {ob : Obj} (h : Below B a w) (hB : B ≤ w.heap.size) : Below B a (w.alloc ob) := h.alloc hB ob
theorem Row.alloc {w : World} {g n : Nat} {xs : List Nat} (h : Row w g n xs) (ob : Obj) : Row (w.alloc ob) g n xs := by
  have hl := h.lt
  obtain ⟨hl, cur, h1, h2⟩ := h
  exact ⟨hl, cur, by rw [Below.heap_alloc _ _ _ (by assumption)]; exact h1, h2⟩
theorem Row.drewN {w : World} {g n : Nat} {xs : List Nat} (h : Row w g n xs) (m : Nat) : Row (w.drewN m) g n xs := h
theorem Row.made (w : World) (n : Nat) : Row (w.alloc (.cells (madeCells #[.float .f32 0] n) 23)) w.heap.size n (List.replicate n 0) :=
  ⟨by simp, _, heap_alloc_new w _, by rw [toList_madeCells_one]; simp⟩
theorem Row.rd {w : World} {g n : Nat} {xs : List Nat} (h : Row w g n xs) : Rd w g 0 xs :=
  ⟨h.lt, fun k hk => by rw [Nat.zero_add]; exact h.cell k (by have := h.len; omega)⟩

theorem Rd.lt {w : World} {b o : Nat} {xs : List Nat} (h : Rd w b o xs) : b < w.heap.size := h.1
theorem Rd.cell {w : World} {b o : Nat} {xs : List Nat} (h : Rd w b o xs) (k : Nat) (hk : k < xs.length) : w.cell? ⟨b, o + k, none⟩ = some (.float .f32 (xs.getD k 0)) := h.2 k hk
theorem Rd.cell0 {w : World} {b : Nat} {xs : List Nat} (h : Rd w b 0 xs) (k : Nat) (hk : k < xs.length) : w.cell? ⟨b, k, none⟩ = some (.float .f32 (xs.getD k 0)) := by
  have := h.2 k hk
  rwa [Nat.zero_add] at this
theorem Rd.below {B : Nat} {w w' : World} {b o : Nat} {xs : List Nat} (h : Rd w b o xs) (hb : Below B w w') (hg : b < B) : Rd w' b o xs :=
  ⟨Nat.lt_of_lt_of_le h.1 hb.size, fun k hk => by rw [hb.cell (p := ⟨b, o + k, none⟩) hg]; exact h.2 k hk⟩
theorem Rd.keep {w w' : World} {b o : Nat} {xs : List Nat} (h : Rd w b o xs) (hb : Below w.heap.size w w') : Rd w' b o xs := h.below hb h.1
theorem Rd.alloc {w : World} {b o : Nat} {xs : List Nat} (h : Rd w b o xs) (ob : Obj) : Rd (w.alloc ob) b o xs := h.keep ((Below.refl _ _).alloc (Nat.le_refl _) ob)

/-- A slice value that reads as the singles xs. -/
def Sl (w : World) (v : Value) (xs : List Nat) : Prop :=
  (∃ b o c, v = .slice (some ⟨b, o, none⟩) xs.length c ∧ xs ≠ [] ∧ Rd w b o xs) ∨ (xs = [] ∧ ∃ a c, v = .slice a 0 c)
theorem Sl.keep {w w' : World} {v : Value} {xs : List Nat} (h : Sl w v xs) (hb : Below w.heap.size w w') : Sl w' v xs := by
  rcases h with ⟨b, o, c, h1, h2, h3⟩ | h
  · exact .inl ⟨b, o, c, h1, h2, h3.keep hb⟩
  · exact .inr h
theorem Row.sl {w : World} {g n : Nat} {xs : List Nat} (h : Row w g n xs) (hn : 0 < n) (c : Nat) : Sl w (.slice (some ⟨g, 0, none⟩) n c) xs :=
  .inl ⟨g, 0, c, by rw [h.len], by intro e; have := h.len; simp [e] at this; omega, h.rd⟩

theorem bnew {W w0 : World} {ob : Obj} (h : Below W.heap.size W w0) : Below W.heap.size W (w0.alloc ob) := h.alloc h.size ob
theorem bcall {W w0 w1 : World} (h : Below W.heap.size W w0) (hb : Below w0.heap.size w0 w1) : Below W.heap.size W w1 := h.trans (hb.mono h.size)
theorem bput {W w0 : World} {b o : Nat} {v : Value} (hb : W.heap.size ≤ b) (h : Below W.heap.size W w0) : Below W.heap.size W (w0.setCell ⟨b, o, none⟩ v) := h.setCell (p := ⟨b, o, none⟩) hb v
theorem bdrew {W w0 : World} {m : Nat} (h : Below W.heap.size W w0) : Below W.heap.size W (w0.drewN m) := below_drewN h m
theorem quiet_same {P : Program} {f : FuncId} {args : Array Value} {w : World} {n : Nat} {v : Value}
    (h : Calls P f args (w.drewN n) fun e w' => e = .returned v ∧ w.drewN n = w') : Calls P f args (w.drewN n) fun e w'' => e = .returned v ∧ ∃ m, w'' = w.drewN m :=
  h.mono fun _ _ ⟨he, hm⟩ => ⟨he, n, hm.symm⟩

theorem quiet_sameN {P : Program} {f : FuncId} {args : Array Value} {w : World} {m n : Nat} {v : Value}
    (h : Calls P f args (w.drewN (m + n)) fun e w' => e = .returned v ∧ w.drewN (m + n) = w') : Calls P f args (w.drewN (m + n)) fun e w'' => e = .returned v ∧ ∃ k, w'' = w.drewN (m + k) :=
  h.mono fun _ _ ⟨he, hm⟩ => ⟨he, n, hm.symm⟩

/-- Block b holds just these cells. -/
def Bx (w : World) (b : Nat) (T : TypeId) (cs : Array Value) : Prop := w.heap[b]? = some (.cells cs T (0, 0))
theorem Bx.new (w : World) (T : TypeId) (cs : Array Value) : Bx (w.alloc (.cells cs T)) w.heap.size T cs := heap_alloc_new w _
theorem Bx.at {w : World} {T : TypeId} {cs : Array Value} (k : Nat) (hk : w.heap.size = k) : Bx (w.alloc (.cells cs T)) k T cs := by subst hk; exact heap_alloc_new w _
theorem Bx.lt {w : World} {b : Nat} {T : TypeId} {cs : Array Value} (h : Bx w b T cs) : b < w.heap.size := (Array.getElem?_eq_some_iff.1 h).1
theorem Bx.alloc {w : World} {b : Nat} {T : TypeId} {cs : Array Value} (h : Bx w b T cs) (ob : Obj) : Bx (w.alloc ob) b T cs := by
  unfold Bx; rw [Below.heap_alloc _ _ _ h.lt]; exact h
theorem Bx.below {B : Nat} {w w' : World} {b : Nat} {T : TypeId} {cs : Array Value} (h : Bx w b T cs) (hb : Below B w w') (hlt : b < B) : Bx w' b T cs := by
  unfold Bx; rw [hb.block b hlt]; exact h
theorem Bx.keep {w w' : World} {b : Nat} {T : TypeId} {cs : Array Value} (h : Bx w b T cs) (hb : Below w.heap.size w w') : Bx w' b T cs := h.below hb h.lt
theorem Bx.drewN {w : World} {b : Nat} {T : TypeId} {cs : Array Value} (h : Bx w b T cs) (m : Nat) : Bx (w.drewN m) b T cs := h
theorem Bx.other {w : World} {b : Nat} {T : TypeId} {cs : Array Value} (h : Bx w b T cs) (a : Addr) (v : Value) (ha : b ≠ a.block) : Bx (w.setCell a v) b T cs := by
  unfold Bx; rw [Below.heap_setCell _ _ _ _ ha]; exact h
theorem Bx.set {w : World} {b : Nat} {T : TypeId} {cs : Array Value} (h : Bx w b T cs) (i : Nat) (v : Value) : Bx (w.setCell ⟨b, i, none⟩ v) b T (cs.setIfInBounds i v) := heap_setCell_same w b i cs _ _ h
theorem Bx.all {w : World} {b : Nat} {T : TypeId} {cs : Array Value} (h : Bx w b T cs) :
    (∀ o, w.cell? ⟨b, o, none⟩ = cs[o]?) ∧ (∀ o, w.frozen? ⟨b, o, none⟩ = false) ∧ b < w.heap.size :=
  ⟨fun o => cell_of_row w b o cs _ (0, 0) h, fun o => frozen_of_row w b o cs _ h, h.lt⟩

/-- Only block b has turned. -/
structure Only (b : Nat) (w w' : World) : Prop where
  os : w'.os = w.os
  tape : w'.tape = w.tape
  output : w'.output = w.output
  size : w'.heap.size = w.heap.size
  block : ∀ k, k ≠ b → w'.heap[k]? = w.heap[k]?
theorem Only.refl (b : Nat) (w : World) : Only b w w := ⟨rfl, rfl, rfl, rfl, fun _ _ => rfl⟩
theorem Only.set {b : Nat} {w w' : World} (h : Only b w w') (o : Nat) (v : Value) : Only b w (w'.setCell ⟨b, o, none⟩ v) :=
  ⟨h.os, h.tape, h.output, by simp [World.setCell, h.size], fun k hk => by rw [Below.heap_setCell _ _ _ _ hk]; exact h.block k hk⟩
theorem Only.below {b B : Nat} {w w' : World} (h : Only b w w') (hB : B ≤ b) : Below B w w' := ⟨h.os, h.tape, h.output, Nat.le_of_eq h.size.symm, fun k hk => h.block k (by omega)⟩
theorem Only.bx {b k : Nat} {w w' : World} {T : TypeId} {cs : Array Value} (h : Only b w w') (hk : k ≠ b) (x : Bx w k T cs) : Bx w' k T cs := by
  unfold Bx; rw [h.block k hk]; exact x
theorem Only.row {b g n : Nat} {w w' : World} {xs : List Nat} (h : Only b w w') (hk : g ≠ b) (x : Row w g n xs) : Row w' g n xs := by
  obtain ⟨hl, cur, h1, h2⟩ := x
  exact ⟨hl, cur, by rw [h.block g hk]; exact h1, h2⟩
theorem Only.rd {b k o : Nat} {w w' : World} {xs : List Nat} (h : Only b w w') (hk : k ≠ b) (x : Rd w k o xs) : Rd w' k o xs :=
  ⟨by rw [h.size]; exact x.1, fun i hi => by rw [World.cell?_of_block (w := w) (a := ⟨k, o + i, none⟩) (h.block k hk)]; exact x.2 i hi⟩
theorem set5 {w : World} {b : Nat} {T : TypeId} {c0 c1 c2 c3 c4 : Value} (x : Bx w b T #[c0, c1, c2, c3, c4]) (v0 v1 v2 v3 v4 : Value) :
    Bx (((((w.setCell ⟨b, 0, none⟩ v0).setCell ⟨b, 1, none⟩ v1).setCell ⟨b, 2, none⟩ v2).setCell ⟨b, 3, none⟩ v3).setCell ⟨b, 4, none⟩ v4) b T #[v0, v1, v2, v3, v4] ∧
    Only b w (((((w.setCell ⟨b, 0, none⟩ v0).setCell ⟨b, 1, none⟩ v1).setCell ⟨b, 2, none⟩ v2).setCell ⟨b, 3, none⟩ v3).setCell ⟨b, 4, none⟩ v4) :=
  ⟨((((x.set 0 v0).set 1 v1).set 2 v2).set 3 v3).set 4 v4, (((((Only.refl b w).set 0 v0).set 1 v1).set 2 v2).set 3 v3).set 4 v4⟩
theorem set4 {w : World} {b : Nat} {T : TypeId} {c0 c1 c2 c3 : Value} (x : Bx w b T #[c0, c1, c2, c3]) (v0 v1 v2 v3 : Value) :
    Bx ((((w.setCell ⟨b, 0, none⟩ v0).setCell ⟨b, 1, none⟩ v1).setCell ⟨b, 2, none⟩ v2).setCell ⟨b, 3, none⟩ v3) b T #[v0, v1, v2, v3] ∧
    Only b w ((((w.setCell ⟨b, 0, none⟩ v0).setCell ⟨b, 1, none⟩ v1).setCell ⟨b, 2, none⟩ v2).setCell ⟨b, 3, none⟩ v3) :=
  ⟨(((x.set 0 v0).set 1 v1).set 2 v2).set 3 v3, ((((Only.refl b w).set 0 v0).set 1 v1).set 2 v2).set 3 v3⟩
theorem bonly {W w0 w1 : World} {b : Nat} (h : Below W.heap.size W w0) (ho : Only b w0 w1) (hb : W.heap.size ≤ b) : Below W.heap.size W w1 := h.trans (ho.below hb)

/-- The world ahead of the last new block gets a name. -/
theorem name_alloc {P : Program} {k : Code} {Q : Exit → Act → World → Prop} {a : Act} {w0 : World} {ob : Obj} (h : ∀ wb, wb = w0 → k.wp P Q a (wb.alloc ob)) : k.wp P Q a (w0.alloc ob) := h _ rfl
theorem name_world {P : Program} {k : Code} {Q : Exit → Act → World → Prop} {a : Act} {w0 : World} (h : ∀ wb, wb = w0 → k.wp P Q a wb) : k.wp P Q a w0 := h _ rfl

/-- What has been filled after k of N rounds. -/
def fillTo (N k : Nat) (F : Nat → Nat) : List Nat := (List.range N).map fun j => if j < k then F j else 0
theorem fillTo_zero (N : Nat) (F : Nat → Nat) : fillTo N 0 F = List.replicate N 0 := by
  apply List.ext_getElem <;> simp [fillTo]
theorem fillTo_full (N : Nat) (F : Nat → Nat) : fillTo N N F = (List.range N).map F := by
  apply List.ext_getElem
  · simp [fillTo]
  · intro i h1 h2
    simp [fillTo] at h1 ⊢
    intro h; omega
theorem fillTo_set (N k : Nat) (F : Nat → Nat) (_hk : k < N) : (fillTo N k F).set k (F k) = fillTo N (k + 1) F := by
  apply List.ext_getElem
  · simp [fillTo]
  · intro i h1 h2
    simp only [fillTo, List.getElem_set, List.getElem_map, List.getElem_range]
    by_cases h : k = i
    · subst h; simp
    · rw [if_neg h]
      by_cases h' : i < k
      · rw [if_pos h', if_pos (by omega)]
      · rw [if_neg h', if_neg (by omega)]
theorem fillTo_len (N k : Nat) (F : Nat → Nat) : (fillTo N k F).length = N := by simp [fillTo]

/-- Below, as the walk's two rules. -/
theorem bcell {B : Nat} {W w1 : World} (hb : Below B W w1) : (∀ b o, b < B → w1.cell? ⟨b, o, none⟩ = W.cell? ⟨b, o, none⟩) ∧ (∀ b o, b < B → w1.frozen? ⟨b, o, none⟩ = W.frozen? ⟨b, o, none⟩) :=
  ⟨fun b o h => hb.cell (p := ⟨b, o, none⟩) h, fun b o h => hb.frozen (p := ⟨b, o, none⟩) h⟩

/-- The rest of a division of two naturals; its quotient. -/
theorem run_rem_nat {P : Program} (w : World) (k n : Nat) (hn : 0 < n) : (Op.intDiv .rem .i64 (k : Int) (n : Int)).run P w = .ok (.int .i64 ((k % n : Nat) : Int)) w := by
  have h : ¬ ((n : Int) = 0) := by omega
  simp only [Op.intDiv, if_neg h, Sem.run_pure]
  rw [Int.tmod_eq_emod_of_nonneg (by omega)]
  rfl
theorem run_quo_nat {P : Program} (w : World) (k n : Nat) (hn : 0 < n) (hk : (k : Int) < 9223372036854775808) : (Op.intDiv .quo .i64 (k : Int) (n : Int)).run P w = .ok (.int .i64 ((k / n : Nat) : Int)) w := by
  have h : ¬ ((n : Int) = 0) := by omega
  simp only [Op.intDiv, if_neg h, Sem.run_pure]
  rw [Int.tdiv_eq_ediv_of_nonneg (by omega)]
  have h2 : (k : Int) / (n : Int) = ((k / n : Nat) : Int) := rfl
  have h3 : k / n ≤ k := Nat.div_le_self k n
  have h4 : IntKind.i64.wrap ((k / n : Nat) : Int) = ((k / n : Nat) : Int) := IntWalk.i64_in _ (by generalize k / n = q at *; omega)
  rw [h2, h4]

theorem bat {B : Nat} {W w1 : World} (hb : Below B W w1) (b : Nat) (h : b < B) : (∀ o, w1.cell? ⟨b, o, none⟩ = W.cell? ⟨b, o, none⟩) ∧ (∀ o, w1.frozen? ⟨b, o, none⟩ = W.frozen? ⟨b, o, none⟩) :=
  ⟨fun o => hb.cell (p := ⟨b, o, none⟩) h, fun o => hb.frozen (p := ⟨b, o, none⟩) h⟩

@[go_sem] theorem run_pixelAtSlice (w : World) (a : Addr) (c : Nat) : (Instr.arrayAt 25 (.slice (some a) 4 c)).run Tryz.prog w = .ok (.pointer (some a)) w := by kernel_rfl

theorem infoF : (Tryz.prog.info? 23).map (fun i => (i.zero, i.size, i.bytes)) = some (some (.float .f32 0), 1, 4) := by kernel_rfl

/-- make([]float32, n): a new block, the last one. -/
theorem run_makeF (w : World) (N : Nat) (hN : N ≤ 1000000) :
    (Instr.makeSlice 37 (.int .i64 (N : Int)) (.int .i64 (N : Int))).run Tryz.prog w = .ok (.slice (some ⟨w.heap.size, 0, none⟩) N N) (w.alloc (.cells (madeCells #[.float .f32 0] N) 23)) := by
  obtain ⟨i0, hi, hz0, hz1, hz2⟩ := info_parts infoF
  have := run_make (P := Tryz.prog) w 37 23 i0 (.float .f32 0) Tryz.underlying37 hi hz0 .i64 .i64 N N (by omega) (Int.le_refl _) (by rw [hz2]; omega) (by omega)
  rw [this, hz1]
  simp [Value.cells]
end
end Go.Proofs.YticekgnmiaidjaaGreatDoor
