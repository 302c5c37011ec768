/- Plain: what Merge makes of three looks. -/
import Derived.Test.YticekgnmiaidjaaGreatDoorLkE
import Derived.Test.YticekgnmiaidjaaGreatDoorLkH
import Derived.Test.YticekgnmiaidjaaGreatDoorLkD
namespace Go.Proofs.YticekgnmiaidjaaGreatDoor

section
open Go.RowKit

theorem compact_uptoS (d : Array (List UInt8)) (n : Nat) (hs : ∀ i j, i ≤ j → j < n → d[i]! ≤ d[j]!) : ∀ m, m ≤ n → (Lib.compactUpTo d m).Pairwise (· < ·) ∧ ∀ x, x ∈ Lib.compactUpTo d m ↔ ∃ j, j < m ∧ d[j]! = x := by
  intro m
  induction m with
  | zero => intro _; exact ⟨by simp [Lib.compactUpTo], fun x => ⟨fun h => by simp [Lib.compactUpTo] at h, fun ⟨j, hj, _⟩ => by omega⟩⟩
  | succ m ih =>
    intro hm
    obtain ⟨h1, h2⟩ := ih (by omega)
    rw [Lib.compactUpTo_succ]
    by_cases hk : Lib.keeps d m = true
    · rw [if_pos hk]
      have hk' : m = 0 ∨ d[m]! ≠ d[m - 1]! := by simpa [Lib.keeps] using hk
      refine ⟨List.pairwise_append.2 ⟨h1, by simp, fun a ha b hb => ?_⟩, fun x => ?_⟩
      · obtain ⟨j, hj, rfl⟩ := (h2 a).1 ha
        have hb : b = d[m]! := by simpa using hb
        subst hb
        have e1 := hs j (m - 1) (by omega) (by omega)
        have e2 := hs (m - 1) m (by omega) (by omega)
        rcases hk' with h | h
        · omega
        · exact List.not_le.1 fun h3 => h (List.le_antisymm (List.le_trans h3 e1) e2)
      · rw [List.mem_append, h2]
        constructor
        · rintro (⟨j, hj, e⟩ | h)
          · exact ⟨j, by omega, e⟩
          · have h : x = d[m]! := by simpa using h
            exact ⟨m, by omega, h.symm⟩
        · rintro ⟨j, hj, e⟩
          by_cases hjm : j < m
          · exact .inl ⟨j, hjm, e⟩
          · obtain rfl : j = m := by omega
            right; simp [e]
    · rw [if_neg hk, List.append_nil]
      have hk' : ¬ (m = 0 ∨ d[m]! ≠ d[m - 1]!) := by simpa [Lib.keeps] using hk
      have hm0 : m ≠ 0 := fun h => hk' (.inl h)
      have he : d[m]! = d[m - 1]! := Classical.byContradiction fun h => hk' (.inr h)
      refine ⟨h1, fun x => ?_⟩
      rw [h2]
      constructor
      · rintro ⟨j, hj, e⟩; exact ⟨j, by omega, e⟩
      · rintro ⟨j, hj, e⟩
        by_cases hjm : j < m
        · exact ⟨j, hjm, e⟩
        · obtain rfl : j = m := by omega
          exact ⟨j - 1, by omega, by rw [← he]; exact e⟩
theorem compact_specS (z : List (List UInt8)) (hp : z.Pairwise (· ≤ ·)) : (Lib.compact z).Pairwise (· < ·) ∧ ∀ x, x ∈ Lib.compact z ↔ x ∈ z := by
  have hs : ∀ i j, i ≤ j → j < z.length → z.toArray[i]! ≤ z.toArray[j]! := by
    intro i j hij hj
    have e1 : z.toArray[i]! = z[i]'(by omega) := by rw [getElem!_pos z.toArray i (by simpa using Nat.lt_of_le_of_lt hij hj)]; simp
    have e2 : z.toArray[j]! = z[j] := by rw [getElem!_pos z.toArray j (by simpa using hj)]; simp
    rw [e1, e2]
    rcases Nat.lt_or_eq_of_le hij with h | h
    · exact List.pairwise_iff_getElem.1 hp i j (by omega) hj h
    · subst h; exact List.le_refl _
  obtain ⟨h1, h2⟩ := compact_uptoS z.toArray z.length hs z.length (Nat.le_refl _)
  refine ⟨h1, fun x => ?_⟩
  show x ∈ Lib.compactUpTo z.toArray z.length ↔ _
  rw [h2]
  constructor
  · rintro ⟨j, hj, rfl⟩
    rw [getElem!_pos z.toArray j (by simpa using hj)]
    simp
  · intro hx
    obtain ⟨j, hj, e⟩ := List.mem_iff_getElem.1 hx
    exact ⟨j, hj, by rw [getElem!_pos z.toArray j (by simpa using hj)]; simpa using e⟩
/-- One text ahead of another. -/
def ltS (a b : ByteArray) : Prop := a.data.toList < b.data.toList
theorem ltS_irr (a : ByteArray) : ¬ ltS a a := fun h => List.lt_irrefl _ h
theorem ltS_trans {a b c : ByteArray} (h : ltS a b) (g : ltS b c) : ltS a c := List.lt_trans h g
/-- Texts sorted, each once. -/
def allS (T : List ByteArray) : List ByteArray := cmpS (srtS T)
theorem allS_spec (T : List ByteArray) : (allS T).Pairwise ltS ∧ ∀ s, s ∈ allS T ↔ s ∈ T := by
  have hp : ((srtS T).map (·.data.toList)).Pairwise (· ≤ ·) := by
    rw [List.pairwise_map]
    exact srtS_le T
  obtain ⟨h1, h2⟩ := compact_specS _ hp
  unfold allS cmpS
  refine ⟨?_, fun s => ?_⟩
  · rw [List.pairwise_map]
    exact h1
  · have e : ∀ l : List UInt8, (⟨l.toArray⟩ : ByteArray).data.toList = l := fun l => rfl
    rw [List.mem_map]
    constructor
    · rintro ⟨l, hl, rfl⟩
      rw [h2, List.mem_map] at hl
      obtain ⟨x, hx, rfl⟩ := hl
      have : (⟨x.data.toList.toArray⟩ : ByteArray) = x := bytes_inj.1 rfl
      rw [this]
      exact (srtS_perm T).mem_iff.1 hx
    · intro hs
      exact ⟨s.data.toList, (h2 _).2 (List.mem_map.2 ⟨s, (srtS_perm T).mem_iff.2 hs, rfl⟩), bytes_inj.1 rfl⟩
theorem sortedS_same : ∀ {a b : List ByteArray}, a.Pairwise ltS → b.Pairwise ltS → (∀ x, x ∈ a ↔ x ∈ b) → a = b
  | [], [], _, _, _ => rfl
  | [], y :: b, _, _, h => absurd ((h y).2 (by simp)) (by simp)
  | x :: a, [], _, _, h => absurd ((h x).1 (by simp)) (by simp)
  | x :: a, y :: b, ha, hb, h => by
    obtain ⟨a1, a2⟩ := List.pairwise_cons.1 ha
    obtain ⟨b1, b2⟩ := List.pairwise_cons.1 hb
    have hxy : x = y := by
      have h1 := (h x).1 (by simp)
      have h2 := (h y).2 (by simp)
      rw [List.mem_cons] at h1 h2
      rcases h1 with h1 | h1
      · exact h1
      · rcases h2 with h2 | h2
        · exact h2.symm
        · exact absurd (ltS_trans (b1 _ h1) (a1 _ h2)) (ltS_irr _)
    subst hxy
    congr 1
    refine sortedS_same a2 b2 fun z => ?_
    have hz := h z
    rw [List.mem_cons, List.mem_cons] at hz
    constructor
    · intro hza
      rcases hz.1 (.inr hza) with e | h
      · subst e; exact absurd (a1 _ hza) (ltS_irr _)
      · exact h
    · intro hzb
      rcases hz.2 (.inr hzb) with e | h
      · subst e; exact absurd (b1 _ hzb) (ltS_irr _)
      · exact h
theorem allS_mem {T U : List ByteArray} (h : ∀ s, s ∈ T ↔ s ∈ U) : allS T = allS U :=
  sortedS_same (allS_spec T).1 (allS_spec U).1 fun s => by rw [(allS_spec T).2, (allS_spec U).2, h]
theorem allS_self {T : List ByteArray} (h : T.Pairwise ltS) : allS T = T := sortedS_same (allS_spec T).1 h fun s => (allS_spec T).2 s
theorem sorted_nodup {T : List ByteArray} (h : T.Pairwise ltS) : T.Nodup := h.imp fun hab e => by subst e; exact ltS_irr _ hab
theorem nodup_le : ∀ {a b : List ByteArray}, a.Nodup → (∀ s ∈ a, s ∈ b) → a.length ≤ b.length
  | [], _, _, _ => Nat.zero_le _
  | x :: a, b, hn, h => by
    rw [List.nodup_cons] at hn
    have hx := h x (List.mem_cons_self ..)
    have h1 := nodup_le (a := a) (b := b.filter fun s => !decide (s = x)) hn.2 fun s hs => List.mem_filter.2 ⟨h s (List.mem_cons_of_mem _ hs), by
      rw [decide_eq_false (fun e => hn.1 (by rw [← e]; exact hs))]; rfl⟩
    have h2 := (List.length_filter_lt_length_iff_exists (p := fun s => !decide (s = x)) (l := b)).2 ⟨x, hx, by simp⟩
    rw [List.length_cons]
    omega
theorem allS_len (T : List ByteArray) : (allS T).length ≤ T.length := nodup_le (sorted_nodup (allS_spec T).1) fun s hs => ((allS_spec T).2 s).1 hs

/-- What the look has of a shot. -/
def getR (rows : List Rw) (s : ByteArray) : Option (List Gd) := (rows.find? fun r => decide (r.1 = s)).map (·.2)
theorem getR_mem {rows : List Rw} {s : ByteArray} : (getR rows s).isSome = true ↔ s ∈ rows.map (·.1) := by
  unfold getR
  rw [Option.isSome_map, List.find?_isSome, List.mem_map]
  constructor
  · rintro ⟨r, h1, h2⟩; exact ⟨r, h1, by simpa using h2⟩
  · rintro ⟨r, h1, h2⟩; exact ⟨r, h1, by simpa using h2⟩
theorem getR_row {rows : List Rw} {s : ByteArray} {l : List Gd} (h : getR rows s = some l) : (s, l) ∈ rows := by
  unfold getR at h
  cases hf : rows.find? fun r => decide (r.1 = s) with
  | none => rw [hf] at h; cases h
  | some r =>
    rw [hf] at h
    have h1 := List.mem_of_find?_eq_some hf
    have h2 : r.1 = s := by simpa using List.find?_some hf
    have h3 : r.2 = l := by simpa using h
    rw [← h2, ← h3]; exact h1
theorem getR_of {rows : List Rw} (hn : (rows.map (·.1)).Nodup) {r : Rw} (h : r ∈ rows) : getR rows r.1 = some r.2 := by
  unfold getR
  induction rows with
  | nil => cases h
  | cons a rows ih =>
    rw [List.map_cons, List.nodup_cons] at hn
    rw [List.find?_cons]
    rcases List.mem_cons.1 h with rfl | h
    · simp
    · have : a.1 ≠ r.1 := fun e => hn.1 (by rw [e]; exact List.mem_map.2 ⟨r, h, rfl⟩)
      rw [decide_eq_false this]
      exact ih hn.2 h
theorem leS_ff {a b : ByteArray} (h : leS a b = false) : ltS b a := by
  unfold leS at h
  rw [bytesLess_eq, Lib.toList_data, Lib.toList_data, Bool.or_eq_false_iff] at h
  have h1 : ¬ a.data.toList < b.data.toList := by simpa using h.1
  have h2 : a.data.toList ≠ b.data.toList := by simpa using h.2
  exact List.not_le.1 fun h3 => h2 (List.le_antisymm h3 (List.not_lt.1 h1))
theorem firstNZ_all : ∀ {es : List Int}, firstNZ es = 0 → ∀ e ∈ es, e = 0
  | [], _, e, he => by cases he
  | x :: es, h, e, he => by
    unfold firstNZ at h
    split at h
    · rename_i hx
      rcases List.mem_cons.1 he with rfl | he
      · exact hx
      · exact firstNZ_all h e he
    · rename_i hx; exact absurd h hx
/-- A right look. -/
structure LookOk (rows : List Rw) : Prop where
  len : rows.length ≤ 500
  srt : (rows.map (·.1)).Pairwise ltS
  nam : ∀ r ∈ rows, nameB r.1 = true
  gr : ∀ r ∈ rows, gradesErr r.2 = 0
theorem lookErr_ok {rows : List Rw} (h : lookErr rows = 0) : LookOk rows := by
  unfold lookErr at h
  split at h
  · cases h
  · rename_i hl
    have hz : ∀ (k : Nat) (r : Rw), rows[k]? = some r → nameB r.1 = true ∧ (0 < k → leS r.1 (rows.getD (k - 1) (⟨#[]⟩, [])).1 = false) ∧ gradesErr r.2 = 0 := fun k r hr => by
      have hk := (List.getElem?_eq_some_iff.1 hr).1
      have h0 := firstNZ_all h (rowErr rows k) (List.mem_map.2 ⟨k, List.mem_range.2 hk, rfl⟩)
      unfold rowErr at h0
      rw [hr] at h0
      simp only at h0
      split at h0
      · cases h0
      · rename_i h1
        split at h0
        · cases h0
        · rename_i h2
          refine ⟨by simpa using h1, fun hk0 => ?_, h0⟩
          cases hle : leS r.1 (rows.getD (k - 1) (⟨#[]⟩, [])).1
          · rfl
          · exact absurd ⟨hk0, hle⟩ h2
    have hstep : ∀ (k : Nat) (r r' : Rw), rows[k]? = some r → rows[k + 1]? = some r' → ltS r.1 r'.1 := fun k r r' h1 h2 => by
      have := (hz (k + 1) r' h2).2.1 (by omega)
      rw [Nat.add_sub_cancel, List.getD_eq_getElem?_getD, h1] at this
      exact leS_ff this
    have hfar : ∀ (d k : Nat) (r r' : Rw), rows[k]? = some r → rows[k + d + 1]? = some r' → ltS r.1 r'.1 := by
      intro d
      induction d with
      | zero => exact hstep
      | succ d ih =>
        intro k r r' h1 h2
        obtain ⟨m, hm⟩ : ∃ m, rows[k + d + 1]? = some m := ⟨_, List.getElem?_eq_getElem (by have := (List.getElem?_eq_some_iff.1 h2).1; omega)⟩
        exact ltS_trans (ih k r m h1 hm) (hstep _ m r' hm h2)
    refine ⟨by omega, ?_, fun r hr => ?_, fun r hr => ?_⟩
    · rw [List.pairwise_map, List.pairwise_iff_getElem]
      intro i j hi hj hij
      exact hfar (j - i - 1) i _ _ (List.getElem?_eq_getElem hi) (by rw [show i + (j - i - 1) + 1 = j by omega]; exact List.getElem?_eq_getElem hj)
    · obtain ⟨k, hk⟩ := List.mem_iff_getElem?.1 hr
      exact (hz k r hk).1
    · obtain ⟨k, hk⟩ := List.mem_iff_getElem?.1 hr
      exact (hz k r hk).2.2
end

section
open Go.RowKit

def simO : Option (List Gd) → Option (List Gd) → Bool
  | none, none => true
  | some A, some B => simG A B
  | _, _ => false
theorem simO_iff (o p : Option (List Gd)) : simO o p = true ↔ o.map linesG = p.map linesG := by
  cases o <;> cases p <;> simp [simO, simG_iff]
theorem simO_comm (o p : Option (List Gd)) : simO o p = simO p o := by
  rw [Bool.eq_iff_iff, simO_iff, simO_iff]
  exact eq_comm
theorem simO_self (o : Option (List Gd)) : simO o o = true := (simO_iff o o).2 rfl
def pickP (o t u : Option (List Gd)) : Option (List Gd) := if simO o t = true then u else t
def pickR (o t u : Option (List Gd)) : Option (List Gd) := if simO t u = true ∨ simO o u = true then t else if simO o t = true then u else t
def confM (o t u : Option (List Gd)) : Bool := !simO o t && !simO o u && !simO t u
theorem pick_same (o t u : Option (List Gd)) : (pickP o t u).map linesG = (pickR o t u).map linesG := by
  unfold pickP pickR
  by_cases a : simO o t = true
  · rw [if_pos a]
    by_cases b : simO t u = true ∨ simO o u = true
    · rw [if_pos b]
      rcases b with b | b
      · exact ((simO_iff _ _).1 b).symm
      · exact ((simO_iff _ _).1 b).symm.trans ((simO_iff _ _).1 a)
    · rw [if_neg b]
  · rw [if_neg a]
    by_cases b : simO t u = true ∨ simO o u = true
    · rw [if_pos b]
    · rw [if_neg b]
theorem conf_comm (o t u : Option (List Gd)) : confM o t u = confM o u t := by
  unfold confM
  rw [simO_comm t u]
  cases simO o t <;> cases simO o u <;> rfl
theorem pick_comm {o t u : Option (List Gd)} (h : confM o t u = false) : (pickP o t u).map linesG = (pickP o u t).map linesG := by
  unfold pickP
  by_cases a : simO o t = true
  · rw [if_pos a]
    by_cases b : simO o u = true
    · rw [if_pos b]; exact ((simO_iff _ _).1 b).symm.trans ((simO_iff _ _).1 a)
    · rw [if_neg b]
  · rw [if_neg a]
    by_cases b : simO o u = true
    · rw [if_pos b]
    · rw [if_neg b]
      have c : simO t u = true := by
        unfold confM at h
        have ha : simO o t = false := by simpa using a
        have hb : simO o u = false := by simpa using b
        rw [ha, hb] at h
        simpa using h
      exact (simO_iff _ _).1 c
theorem pick_base (o t : Option (List Gd)) : (pickP o t o).map linesG = t.map linesG := by
  unfold pickP
  by_cases a : simO o t = true
  · rw [if_pos a]; exact (simO_iff _ _).1 a
  · rw [if_neg a]
theorem conf_base (o t : Option (List Gd)) : confM o t o = false := by
  unfold confM
  rw [simO_self]
  cases simO o t <;> rfl
def keyR (r : Rw) : ByteArray × ByteArray := (r.1, linesG r.2)
/-- The rows of a table f, in the order S. -/
def rowsOf (f : ByteArray → Option (List Gd)) (S : List ByteArray) : List Rw := S.filterMap fun s => (f s).map fun l => (s, l)
theorem rowsOf_cons (f : ByteArray → Option (List Gd)) (s : ByteArray) (S : List ByteArray) : rowsOf f (s :: S) = (match f s with | none => [] | some l => [(s, l)]) ++ rowsOf f S := by
  unfold rowsOf
  rw [List.filterMap_cons]
  cases f s <;> rfl
theorem rowsOf_append (f : ByteArray → Option (List Gd)) (S T : List ByteArray) : rowsOf f (S ++ T) = rowsOf f S ++ rowsOf f T := List.filterMap_append
theorem rowsOf_same {f g : ByteArray → Option (List Gd)} : ∀ {S : List ByteArray}, (∀ s ∈ S, (f s).map linesG = (g s).map linesG) → (rowsOf f S).map keyR = (rowsOf g S).map keyR
  | [], _ => rfl
  | s :: S, h => by
    have ih := rowsOf_same (S := S) fun x hx => h x (List.mem_cons_of_mem _ hx)
    have h0 := h s (List.mem_cons_self ..)
    rw [rowsOf_cons, rowsOf_cons, List.map_append, List.map_append, ih]
    congr 1
    cases hf : f s <;> cases hg : g s <;> rw [hf, hg] at h0 <;> simp [keyR] at h0 ⊢
    exact h0
theorem rowsOf_congr {f g : ByteArray → Option (List Gd)} : ∀ {S : List ByteArray}, (∀ s ∈ S, f s = g s) → rowsOf f S = rowsOf g S
  | [], _ => rfl
  | s :: S, h => by
    rw [rowsOf_cons, rowsOf_cons, rowsOf_congr (S := S) fun x hx => h x (List.mem_cons_of_mem _ hx), h s (List.mem_cons_self ..)]
theorem rowsOf_fst (f : ByteArray → Option (List Gd)) : ∀ (S : List ByteArray), (rowsOf f S).map (·.1) = S.filter fun s => (f s).isSome
  | [] => rfl
  | s :: S => by
    rw [rowsOf_cons, List.map_append, rowsOf_fst f S, List.filter_cons]
    cases hf : f s <;> simp
theorem rowsOf_at (f : ByteArray → Option (List Gd)) {S : List ByteArray} {r : Rw} (h : r ∈ rowsOf f S) : r.1 ∈ S ∧ f r.1 = some r.2 := by
  unfold rowsOf at h
  obtain ⟨s, hs, h2⟩ := List.mem_filterMap.1 h
  cases hf : f s with
  | none => rw [hf] at h2; cases h2
  | some l =>
    rw [hf] at h2
    have h2 : (s, l) = r := by simpa using h2
    subst h2
    exact ⟨hs, hf⟩
theorem rows_det {f : ByteArray → Option (List Gd)} : ∀ {a b : List Rw}, a.map (·.1) = b.map (·.1) → (∀ r ∈ a, f r.1 = some r.2) → (∀ r ∈ b, f r.1 = some r.2) → a = b
  | [], [], _, _, _ => rfl
  | [], y :: b, h, _, _ => by simp at h
  | x :: a, [], h, _, _ => by simp at h
  | x :: a, y :: b, h, ha, hb => by
    rw [List.map_cons, List.map_cons, List.cons.injEq] at h
    have h1 := ha x (List.mem_cons_self ..)
    have h2 := hb y (List.mem_cons_self ..)
    rw [h.1, h2] at h1
    have : x = y := Prod.ext h.1 (Option.some.inj h1).symm
    rw [this, rows_det h.2 (fun r hr => ha r (List.mem_cons_of_mem _ hr)) fun r hr => hb r (List.mem_cons_of_mem _ hr)]
theorem rowsOf_look {rows : List Rw} (hr : (rows.map (·.1)).Pairwise ltS) {S : List ByteArray} (hS : S.Pairwise ltS) (hm : ∀ s ∈ rows.map (·.1), s ∈ S) : rowsOf (getR rows) S = rows := by
  refine rows_det (f := getR rows) ?_ (fun r h => (rowsOf_at _ h).2) fun r h => getR_of (sorted_nodup hr) h
  rw [rowsOf_fst]
  refine sortedS_same (hS.filter _) hr fun s => ?_
  rw [List.mem_filter, getR_mem]
  exact ⟨fun h => h.2, fun h => ⟨hm s h, h⟩⟩
theorem rowsOf_filter (f : ByteArray → Option (List Gd)) : ∀ (S : List ByteArray), rowsOf f (S.filter fun s => (f s).isSome) = rowsOf f S
  | [] => rfl
  | s :: S => by
    rw [List.filter_cons, rowsOf_cons]
    cases hf : f s with
    | none => simp [rowsOf_filter f S]
    | some l =>
      rw [if_pos (show (some l).isSome = true from rfl), rowsOf_cons, hf, rowsOf_filter f S]
/-- The shots of three looks. -/
def namesM (o t u : List Rw) : List ByteArray := allS (o.map (·.1) ++ t.map (·.1) ++ u.map (·.1))
theorem namesM_comm (o t u : List Rw) : namesM o t u = namesM o u t := allS_mem fun s => by simp only [List.mem_append]; exact or_right_comm
def outP (o t u : List Rw) : List Rw := rowsOf (fun s => pickP (getR o s) (getR t s) (getR u s)) (namesM o t u)
def outR (o t u : List Rw) : List Rw := rowsOf (fun s => pickR (getR o s) (getR t s) (getR u s)) (namesM o t u)
def confs (o t u : List Rw) : List ByteArray := (namesM o t u).filter fun s => confM (getR o s) (getR t s) (getR u s)
def sameL (x y : List Rw) : Bool := decide (x.map keyR = y.map keyR)
theorem out_same (o t u : List Rw) : sameL (outP o t u) (outR o t u) = true := decide_eq_true (rowsOf_same fun _ _ => pick_same _ _ _)
theorem sameL_len {x y : List Rw} (h : sameL x y = true) : x.length = y.length := by
  have := congrArg List.length (of_decide_eq_true h)
  simpa using this
theorem confs_comm (o t u : List Rw) : confs o t u = confs o u t := by
  unfold confs
  rw [namesM_comm]
  congr 1
  funext s
  exact conf_comm _ _ _
theorem out_comm {o t u : List Rw} (h : confs o t u = []) : sameL (outP o t u) (outP o u t) = true := by
  refine decide_eq_true ?_
  unfold outP
  rw [namesM_comm o u t]
  refine rowsOf_same fun s hs => pick_comm ?_
  cases hc : confM (getR o s) (getR t s) (getR u s)
  · rfl
  · have : s ∈ confs o t u := List.mem_filter.2 ⟨hs, hc⟩
    rw [h] at this; cases this
theorem confs_base (o t : List Rw) : confs o t o = [] := by
  unfold confs
  rw [List.filter_eq_nil_iff]
  intro s _
  rw [conf_base]; decide
theorem out_base {o t : List Rw} (ht : (t.map (·.1)).Pairwise ltS) : sameL (outP o t o) t = true := by
  refine decide_eq_true ?_
  have e : rowsOf (getR t) (namesM o t o) = t := rowsOf_look ht (allS_spec _).1 fun s hs => ((allS_spec _).2 s).2 (by simp only [List.mem_append]; exact .inl (.inr hs))
  have h := rowsOf_same (f := fun s => pickP (getR o s) (getR t s) (getR o s)) (g := getR t) (S := namesM o t o) fun s _ => pick_base _ _
  rw [e] at h
  exact h
end
end Go.Proofs.YticekgnmiaidjaaGreatDoor
