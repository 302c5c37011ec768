/- A region that draws its order and holds whatever operations (stores, appends): an invariant of what has been done, what the slots hold, and the world; each operation is looked at ONCE. -/
import Derived.Test.YticekgnmiaidjaaGreatDoorMem
namespace Go.Proofs.YticekgnmiaidjaaGreatDoor

section
open Go.RowKit
section
variable {P : Program} {ops : Array Oper} {md : Region.Mode}

def dstAt (ops : Array Oper) (i : Nat) : Option Tmp := (ops[i]?).bind (·.dst)
/-- What operation j has left in its slot. -/
def slotOf (ops : Array Oper) (a : Act) (j : Nat) : Value := match dstAt ops j with | some d => a.tmps.getD d undef | none => undef

def fullL (sz n : Nat) : Array Bool := (Array.replicate n true) ++ (Array.replicate (sz - n) false)
theorem put_tmps {a : Act} {d : Nat} {v : Value} (s : Nat) : (a.put (some d) v).tmps.getD s undef = if s = d ∧ d < a.tmps.size then v else a.tmps.getD s undef := by
  simp only [Act.put, Array.getD_eq_getD_getElem?, Array.getElem?_setIfInBounds]
  by_cases h : d = s
  · subst h
    by_cases h2 : d < a.tmps.size <;> simp [h2]
  · have h' : ¬ s = d := fun e => h e.symm
    simp [h, h']

theorem exists_least (p : Nat → Bool) (n : Nat) (h : ∃ i, i < n ∧ p i = true) : ∃ i, i < n ∧ p i = true ∧ ∀ j, j < i → p j = false := by
  induction n with
  | zero => obtain ⟨i, hi, _⟩ := h; omega
  | succ n ih =>
    by_cases h' : ∃ i, i < n ∧ p i = true
    · obtain ⟨i, h1, h2, h3⟩ := ih h'
      exact ⟨i, by omega, h2, h3⟩
    · obtain ⟨i, h1, h2⟩ := h
      refine ⟨i, h1, h2, fun j hj => ?_⟩
      cases hp : p j with
      | false => rfl
      | true => exact absurd ⟨j, by omega, hp⟩ h'

/-- How many head operations are still to come. -/
def todo (li : Array Bool) (n : Nat) : Nat := ((List.range n).filter fun i => !li.getD i false).length
theorem todo_set {li : Array Bool} {n i : Nat} (hi : i < n) (hsz : i < li.size) (hun : li.getD i false = false) : todo (li.setIfInBounds i true) n + 1 = todo li n := by
  unfold todo
  induction n with
  | zero => omega
  | succ n ih =>
    rw [List.range_succ, List.filter_append, List.filter_append, List.length_append, List.length_append]
    by_cases h : i = n
    · subst h
      have h1 : ((List.range i).filter fun j => !(li.setIfInBounds i true).getD j false) = ((List.range i).filter fun j => !li.getD j false) := by
        apply List.filter_congr
        intro j hj
        rw [getD_set_ne false (by have := List.mem_range.1 hj; omega)]
      have h2 : (li.setIfInBounds i true).getD i false = true := by simp [hsz]
      rw [h1]
      simp only [List.filter_cons, List.filter_nil, h2, hun]
      simp
    · have := ih (by omega)
      have h2 : (li.setIfInBounds i true).getD n false = li.getD n false := getD_set_ne false h
      simp only [List.filter_cons, List.filter_nil, h2]
      omega

/-- The frame in which the slots of the first n operations hold these values. -/
def putAll (ops : Array Oper) (a0 : Act) (vs : Nat → Value) : Nat → Act
  | 0 => a0
  | i + 1 => (putAll ops a0 vs i).put (dstAt ops i) (vs i)

theorem putAll_size {a0 : Act} {vs : Nat → Value} (n : Nat) : (putAll ops a0 vs n).tmps.size = a0.tmps.size ∧ (putAll ops a0 vs n).defers = a0.defers := by
  induction n with
  | zero => exact ⟨rfl, rfl⟩
  | succ n ih =>
    unfold putAll
    cases dstAt ops n with
    | none => exact ih
    | some d => exact ⟨by simp [Act.put, ih.1], ih.2⟩

theorem fullL_get {sz n i : Nat} (hi : i < n) : (fullL sz n).getD i false = true := by
  simp [fullL, hi, Array.getElem?_append]

theorem run_go_call {f : FuncId} {fn : Func} (hf : P.funcs[f]? = some fn) (hn : (fn.name == "runtime.NumGoroutine") = false) (hb : fn.body.isNone = false)
    (a : Act) (dst : Option Tmp) (xs : Array Operand) (ats : Array TypeId) (ty : TypeId) (pos : String) (after : Array Edge) (guard : Option (Nat × Bool)) (w : World) (args : Array Value) (hx : xs.map a.eval = args) :
    (execOp a.eval { dst, op := .call { callee := .value (.func f), args := xs, argTypes := ats }, type := ty, pos, after, guard }).run P w = .ok (.enter f args) w := by
  have h1 : fn.name ≠ "runtime.NumGoroutine" := by simpa using hn
  have h2 : ¬ fn.body = none := by intro e; rw [e] at hb; cases hb
  subst hx
  rw [execOp_call_go]
  simp [callFunc, hf, h1, h2]
end

theorem slot_eq {a : Act} {s : Nat} {v : Value} (h : a.tmps.getD s undef = v) : a.tmps[s]?.getD undef = v := by simpa using h
end

section
open Go.RowKit
section
variable {P : Program} {ops : Array Oper} {md : Region.Mode}

/-- No guard; each operation leans on earlier ones; those that have a slot have one of their own. -/
def invB (md : Region.Mode) (ops : Array Oper) (n sz : Nat) : Bool :=
  decide (n = ops.size) && (List.range n).all fun i => match ops[i]? with
    | some o => o.guard.isNone && o.after.all (fun e => !Region.binds md e || decide (e.on < i)) && (match o.dst with
      | some d => decide (d < sz) && (List.range n).all (fun j => j == i || dstAt ops j != some d)
      | none => true)
    | none => false
theorem invB_at {n sz i : Nat} (h : invB md ops n sz = true) (hi : i < n) : ∃ o, ops[i]? = some o ∧ o.guard = none ∧ (∀ e ∈ o.after, Region.binds md e = true → e.on < i) ∧ ∀ d, o.dst = some d → d < sz ∧ ∀ j, j < n → j ≠ i → dstAt ops j ≠ some d := by
  simp only [invB, Bool.and_eq_true, decide_eq_true_eq] at h
  have h1 := List.all_eq_true.1 h.2 i (List.mem_range.2 hi)
  cases ho : ops[i]? with
  | none => rw [ho] at h1; cases h1
  | some o =>
    rw [ho] at h1
    simp only [Bool.and_eq_true, Option.isNone_iff_eq_none] at h1
    obtain ⟨⟨hg, haf⟩, hd⟩ := h1
    refine ⟨o, rfl, hg, fun e he hb => ?_, fun d hds => ?_⟩
    · have := Array.all_eq_true'.1 haf e he
      simpa [hb] using this
    · rw [hds] at hd
      simp only [Bool.and_eq_true, decide_eq_true_eq] at hd
      refine ⟨hd.1, fun j hj hne => ?_⟩
      have := List.all_eq_true.1 hd.2 j (List.mem_range.2 hj)
      simpa [hne] using this
def upd {α : Type} (f : Nat → α) (i : Nat) (x : α) : Nat → α := fun j => if j = i then x else f j
/-- The state under way. -/
structure GI (ops : Array Oper) (n : Nat) (A : Nat → Value → Prop) (E : (Nat → Bool) → (Nat → Value) → World → Prop) (a0 : Act) (li : Array Bool) (a : Act) (w : World) : Prop where
  e : E (fun j => li.getD j false) (slotOf ops a) w
  sz : a.tmps.size = a0.tmps.size
  df : a.defers = a0.defers
  ag : ∀ s, (∀ j, j < n → dstAt ops j ≠ some s) → a.tmps.getD s undef = a0.tmps.getD s undef
  hold : ∀ i, i < n → li.getD i false = true → A i (slotOf ops a i)
/-- What is left behind by one operation. -/
def InvPost (A : Nat → Value → Prop) (E : (Nat → Bool) → (Nat → Value) → World → Prop) (d : Nat → Bool) (vs : Nat → Value) (i : Nat) (o : Oper) (a : Act) (a' : Act) (w' : World) : Prop :=
  ∃ v, a' = a.put o.dst v ∧ (o.dst = none → v = undef) ∧ A i v ∧ E (upd d i true) (upd vs i v) w'
def InvOb (P : Program) (md : Region.Mode) (ops : Array Oper) (n : Nat) (A : Nat → Value → Prop) (E : (Nat → Bool) → (Nat → Value) → World → Prop) (a0 : Act) (Q : Exit → Act → World → Prop) (i : Nat) (o : Oper) : Prop :=
  ∀ (d : Nat → Bool) (a : Act) (w : World), E d (slotOf ops a) w → (∀ s, ((List.range n).all fun j => dstAt ops j != some s) = true → a.tmps.getD s undef = a0.tmps.getD s undef) →
    (∀ e ∈ o.after, Region.binds md e = true → A e.on (slotOf ops a e.on) ∧ d e.on = true) → d i = false → o.wp P a w (InvPost A E d (slotOf ops a) i o a) Q
theorem slot_put {a : Act} {a0 : Act} {n i : Nat} {o : Oper} {v : Value} (ho : ops[i]? = some o) (hsz : a.tmps.size = a0.tmps.size) (hd : ∀ d, o.dst = some d → d < a0.tmps.size ∧ ∀ j, j < n → j ≠ i → dstAt ops j ≠ some d) (hn : n = ops.size) (hv : o.dst = none → v = undef) :
    slotOf ops (a.put o.dst v) = upd (slotOf ops a) i v := by
  funext j
  unfold slotOf upd
  by_cases hji : j = i
  · subst hji
    rw [if_pos rfl]
    have : dstAt ops j = o.dst := by simp [dstAt, ho]
    rw [this]
    cases hds : o.dst with
    | none => exact (hv hds).symm
    | some d =>
      obtain ⟨h1, _⟩ := hd d hds
      simp only [put_tmps, hsz, h1, and_true, if_true]
  · rw [if_neg hji]
    dsimp only
    cases hdj : dstAt ops j with
    | none => rfl
    | some d' =>
      cases hds : o.dst with
      | none => rfl
      | some d =>
        have hjn : j < n := by
          rw [hn]
          unfold dstAt at hdj
          cases h : ops[j]? with
          | none => rw [h] at hdj; cases hdj
          | some _ => exact (Array.getElem?_eq_some_iff.1 h).1
        have : d' ≠ d := fun e => (hd d hds).2 j hjn hji (by rw [hdj, e])
        simp only [put_tmps, this, false_and, if_false]
theorem getD_upd {li : Array Bool} {i : Nat} (hi : i < li.size) : (fun j => (li.setIfInBounds i true).getD j false) = upd (fun j => li.getD j false) i true := by
  funext j
  unfold upd
  by_cases h : j = i
  · subst h
    rw [if_pos rfl, Array.getD_eq_getD_getElem?, Array.getElem?_setIfInBounds_self_of_lt hi]
    rfl
  · rw [if_neg h, getD_set_ne false (Ne.symm h)]
theorem putAllI_at {a0 : Act} {vs : Nat → Value} {n : Nat} (hh : invB md ops n a0.tmps.size = true) (m : Nat) (hm : m ≤ n) (s : Nat) :
    (∀ i d, i < m → dstAt ops i = some d → d = s → (putAll ops a0 vs m).tmps.getD s undef = vs i) ∧ ((∀ i, i < m → dstAt ops i ≠ some s) → (putAll ops a0 vs m).tmps.getD s undef = a0.tmps.getD s undef) := by
  induction m with
  | zero => exact ⟨fun i _ hi => by omega, fun _ => rfl⟩
  | succ m ih =>
    obtain ⟨ih1, ih2⟩ := ih (by omega)
    obtain ⟨o, ho, _, _, hdd⟩ := invB_at hh (show m < n by omega)
    have hdm : dstAt ops m = o.dst := by simp [dstAt, ho]
    unfold putAll
    cases hds : o.dst with
    | none =>
      rw [hdm, hds]
      refine ⟨fun i d hi hdi he => ?_, fun hs => ih2 fun i hi => hs i (by omega)⟩
      by_cases him : i = m
      · subst him
        rw [hdm, hds] at hdi
        cases hdi
      · exact ih1 i d (by omega) hdi he
    | some d =>
      obtain ⟨hds2, huniq⟩ := hdd d hds
      rw [hdm, hds, put_tmps, (putAll_size m).1]
      constructor
      · intro i d' hi hdi he
        by_cases him : i = m
        · subst him
          rw [hdm, hds] at hdi
          obtain rfl : d = d' := Option.some.inj hdi
          rw [if_pos ⟨he.symm, hds2⟩]
        · have : d' ≠ d := fun e => huniq i (by omega) him (by rw [hdi, e])
          rw [if_neg (fun h => this (he.trans h.1))]
          exact ih1 i d' (by omega) hdi he
      · intro hs
        have : s ≠ d := fun e => hs m (by omega) (by rw [hdm, hds, e])
        rw [if_neg (fun h => this h.1)]
        exact ih2 fun i hi => hs i (by omega)
theorem GI.frame {n : Nat} {A : Nat → Value → Prop} {E : (Nat → Bool) → (Nat → Value) → World → Prop} {a0 a : Act} {li : Array Bool} {w : World} (hh : invB md ops n a0.tmps.size = true)
    (hI : GI ops n A E a0 li a w) : a = putAll ops a0 (slotOf ops a) n := by
  have ht : a.tmps = (putAll ops a0 (slotOf ops a) n).tmps := by
    apply Array.ext
    · rw [(putAll_size n).1, hI.sz]
    · intro s h1 h2
      have key : a.tmps.getD s undef = (putAll ops a0 (slotOf ops a) n).tmps.getD s undef := by
        obtain ⟨k1, k2⟩ := putAllI_at (vs := slotOf ops a) hh n (Nat.le_refl _) s
        by_cases hex : ∃ i, i < n ∧ dstAt ops i = some s
        · obtain ⟨i, hi, hd⟩ := hex
          rw [k1 i s hi hd rfl]
          simp [slotOf, hd]
        · have hno : ∀ i, i < n → dstAt ops i ≠ some s := fun i hi hd => hex ⟨i, hi, hd⟩
          rw [k2 hno, hI.ag s hno]
      simpa [h1, h2] using key
  have hd : a.defers = (putAll ops a0 (slotOf ops a) n).defers := by rw [(putAll_size n).2, hI.df]
  generalize putAll ops a0 (slotOf ops a) n = b at ht hd
  cases a; cases b
  simp only at ht hd
  rw [ht, hd]
theorem any_of_inv {Q : Exit → Act → World → Prop} {n : Nat} {A : Nat → Value → Prop} {E : (Nat → Bool) → (Nat → Value) → World → Prop} {a0 : Act}
    (hh : invB md ops n a0.tmps.size = true) (hob : ∀ i o, i < n → ops[i]? = some o → InvOb P md ops n A E a0 Q i o)
    (hend : ∀ a w, GI ops n A E a0 (fullL ops.size n) a w → Q .normal a w) (f : Nat) :
    ∀ li a w, HeadInv md ops n li → GI ops n A E a0 li a w → todo li n = f → wpAny P md ops Q f li a w := by
  have hn : n = ops.size := by
    simp only [invB, Bool.and_eq_true, decide_eq_true_eq] at hh
    exact hh.1
  induction f with
  | zero =>
    intro li a w inv hI htodo
    have hall : ∀ i, i < n → li.getD i false = true := by
      intro i hi
      cases hl : li.getD i false with
      | true => rfl
      | false =>
        have : i ∈ (List.range n).filter fun i => !li.getD i false := List.mem_filter.2 ⟨List.mem_range.2 hi, by rw [hl]; rfl⟩
        have := List.length_pos_of_mem this
        unfold todo at htodo
        omega
    have hfull : li = fullL ops.size n := by
      apply Array.ext
      · rw [inv.size]; simp [fullL]; omega
      · intro i h1 h2
        have hi : i < n := by rw [hn, ← inv.size]; exact h1
        have := hall i hi
        simp [h1] at this
        simp [fullL, hi, this]
    refine ⟨?_, hend a w (hfull ▸ hI)⟩
    cases hr : Region.ready md ops li with
    | nil => rfl
    | cons i r =>
      have hi : i ∈ Region.ready md ops li := by rw [hr]; simp
      obtain ⟨hun, o, ho, _⟩ := mem_ready.1 hi
      have hin : i < n := by rw [hn]; exact (Array.getElem?_eq_some_iff.1 ho).1
      have h1 := hall i hin
      rw [getD_both hun] at h1
      cases h1
  | succ f ih =>
    intro li a w inv hI htodo
    have hdone : ∀ i, i < n → ∀ o, ops[i]? = some o → (∀ e ∈ o.after, Region.binds md e = true → li.getD e.on false = true) → ∀ e ∈ o.after, Region.binds md e = true → A e.on (slotOf ops a e.on) ∧ li.getD e.on false = true := by
      intro i hi o ho hd e he hb
      have h1 := hd e he hb
      refine ⟨hI.hold _ ?_ h1, h1⟩
      rcases Nat.lt_or_ge e.on n with h | h
      · exact h
      · have : li.size ≤ e.on := by rw [inv.size, ← hn]; exact h
        simp [Array.getElem?_eq_none this] at h1
    have hex : ∃ i, i < n ∧ (!li.getD i false) = true := by
      have : 0 < ((List.range n).filter fun i => !li.getD i false).length := by unfold todo at htodo; omega
      obtain ⟨i, hi⟩ := List.exists_mem_of_length_pos this
      simp at hi
      exact ⟨i, hi.1, by simp [hi.2]⟩
    obtain ⟨i0, hi0, hu0, hleast⟩ := exists_least _ _ hex
    have hun0 : li.getD i0 false = false := by simpa using hu0
    have hsz0 : i0 < li.size := by rw [inv.size]; omega
    obtain ⟨o0, ho0, _, hback, _⟩ := invB_at hh hi0
    have hready0 : i0 ∈ Region.ready md ops li := mem_ready.2 ⟨getD_in hsz0 hun0, o0, ho0, fun e he hb => by
      have := hleast e.on (hback e he hb)
      simpa using this⟩
    refine ⟨fun h => (by rw [h] at hready0; cases hready0), fun i hi => ?_⟩
    obtain ⟨hun, o, ho, hdeps⟩ := mem_ready.1 hi
    have hin : i < n := by rw [hn]; exact (Array.getElem?_eq_some_iff.1 ho).1
    obtain ⟨o', ho', hg, _, hdd⟩ := invB_at hh hin
    obtain rfl : o' = o := Option.some.inj (ho'.symm.trans ho)
    have hszi : i < li.size := by rw [inv.size]; omega
    have hobi := hob i o' hin ho (fun j => li.getD j false) a w hI.e (fun s hs => hI.ag s fun j hj => by simpa using List.all_eq_true.1 hs j (List.mem_range.2 hj)) (hdone i hin o' ho hdeps) (getD_both hun)
    unfold wpOp
    simp only [ho]
    rw [if_pos (by simp [Region.wanted, hg])]
    refine .inl (Oper.wp_mono ?_ hobi)
    rintro a' w' ⟨v, rfl, hvn, hAv, hE⟩
    have hsl := slot_put (v := v) ho hI.sz hdd hn hvn
    refine ih _ _ _ (inv.set hi hin) ⟨?_, ?_, ?_, ?_, ?_⟩ (by have := todo_set hin hszi (getD_both hun); omega)
    · rw [getD_upd hszi, hsl]; exact hE
    · cases o'.dst <;> simp [Act.put, hI.sz]
    · cases o'.dst <;> exact hI.df
    · intro s hs
      cases hds : o'.dst with
      | none => exact hI.ag s hs
      | some d =>
        have : s ≠ d := fun e => hs i hin (by simp [dstAt, ho, hds, e])
        rw [put_tmps, if_neg (fun h => this h.1)]
        exact hI.ag s hs
    · intro j hj hlj
      rw [hsl]
      unfold upd
      by_cases hji : j = i
      · subst hji; rw [if_pos rfl]; exact hAv
      · rw [if_neg hji]
        rw [getD_set_ne false (Ne.symm hji)] at hlj
        exact hI.hold j hj hlj
/-- THE RULE. -/
theorem wp_region_inv {id : Nat} {Q : Exit → Act → World → Prop} {a0 : Act} {w0 : World} {l : List Oper} (n : Nat) (A : Nat → Value → Prop) (E : (Nat → Bool) → (Nat → Value) → World → Prop)
    (hm : P.follows .mixedOrders = true) (hB : invB .any l.toArray n a0.tmps.size = true)
    (hE0 : ∀ vs, E (fun _ => false) vs w0.drew) (hob : ∀ i o, i < n → l[i]? = some o → InvOb P .any l.toArray n A E a0 Q i o)
    (hend : ∀ (d : Nat → Bool) (vs : Nat → Value) w, (∀ j, j < n → d j = true) → E d vs w → (∀ i, i < n → A i (vs i)) → Q .normal (putAll l.toArray a0 vs n) w) : (Code.region id l.toArray true).wp P Q a0 w0 := by
  have hn : n = l.toArray.size := by
    simp only [invB, Bool.and_eq_true, decide_eq_true_eq] at hB
    exact hB.1
  have hrep : ∀ j, (Array.replicate l.toArray.size false).getD j false = false := fun j => getD_replicate_false _ _
  have inv0 : HeadInv .any l.toArray n (Array.replicate l.toArray.size false) :=
    ⟨by simp, fun j oj _ hl => (by rw [hrep] at hl; cases hl), fun t _ ht => getD_in (by simpa using ht) (hrep t)⟩
  have htodo : todo (Array.replicate l.toArray.size false) n = n := by
    unfold todo
    rw [List.filter_eq_self.2 (fun i _ => by rw [hrep]; rfl)]
    simp
  have := any_of_inv (md := .any) (Q := Q) hB (fun i o hi ho => hob i o hi (by simpa using ho)) (fun a w hI => by
      have hf := hI.frame hB
      rw [hf]
      exact hend _ (slotOf l.toArray a) w (fun j hj => fullL_get hj) hI.e (fun i hi => hI.hold i hi (fullL_get hi))) n _ a0 w0.drew inv0
    (GI.mk (by have : (fun j => (Array.replicate l.toArray.size false).getD j false) = fun _ => false := funext hrep
               rw [this]; exact hE0 _) rfl rfl (fun _ _ => rfl) (fun i _ hl => (by rw [hrep] at hl; cases hl))) htodo
  rw [hn] at this
  exact wp_region_any hm this
theorem inv_val {o : Oper} {a : Act} {w w' : World} {Q : Exit → Act → World → Prop} {A : Nat → Value → Prop} {E : (Nat → Bool) → (Nat → Value) → World → Prop} {d : Nat → Bool} {vs : Nat → Value} {i : Nat} {v : Value}
    (hr : (execOp a.eval o).run P w = .ok (.value v) w') (hn : o.dst = none → v = undef) (hA : A i v) (hE : E (upd d i true) (upd vs i v) w') : o.wp P a w (InvPost A E d vs i o a) Q := by
  unfold Oper.wp
  rw [hr]
  exact ⟨v, rfl, hn, hA, hE⟩
theorem inv_skip {o : Oper} {a : Act} {w w' : World} {Q : Exit → Act → World → Prop} {A : Nat → Value → Prop} {E : (Nat → Bool) → (Nat → Value) → World → Prop} {d : Nat → Bool} {vs : Nat → Value} {i : Nat}
    (hr : (execOp a.eval o).run P w = .ok .skip w') (hA : A i undef) (hE : E (upd d i true) (upd vs i undef) w') : o.wp P a w (InvPost A E d vs i o a) Q := by
  unfold Oper.wp
  rw [hr]
  exact ⟨undef, rfl, fun _ => rfl, hA, hE⟩
end
end
end Go.Proofs.YticekgnmiaidjaaGreatDoor
