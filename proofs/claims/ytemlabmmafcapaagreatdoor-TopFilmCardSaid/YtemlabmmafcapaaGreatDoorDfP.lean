/- Two films compared, plain: marks, what stands in a frame, the ranges where they differ; where nothing is told both go on alike. No program in sight. -/
import Derived.Test.YtemlabmmafcapaaGreatDoorEvt
import Derived.Lib.SlicesCompact
namespace Go.Proofs.YtemlabmmafcapaaGreatDoor
open Go.RowKit

/-- What is kept of a sorted row: each once, in order. -/
theorem compact_upto (d : Array Int) (n : Nat) (hs : ∀ i j, i ≤ j → j < n → d[i]! ≤ d[j]!) : ∀ m, m ≤ n → (Lib.compactUpTo d m).Pairwise (· < ·) ∧ ∀ x, x ∈ Lib.compactUpTo d m ↔ ∃ j, j < m ∧ d[j]! = x := by
  intro m
  induction m with
  | zero => intro _; exact ⟨by simp [Lib.compactUpTo], fun x => ⟨fun h => by simp [Lib.compactUpTo] at h, fun ⟨j, hj, _⟩ => by omega⟩⟩
  | succ m ih =>
    intro hm
    obtain ⟨h1, h2⟩ := ih (by omega)
    rw [Lib.compactUpTo_succ]
    by_cases hk : Lib.keeps d m = true
    · rw [if_pos hk]
      have hk' : m = 0 ∨ d[m]! ≠ d[m - 1]! := by simpa [Lib.keeps] using hk
      refine ⟨List.pairwise_append.2 ⟨h1, by simp, fun a ha b hb => ?_⟩, fun x => ?_⟩
      · obtain ⟨j, hj, rfl⟩ := (h2 a).1 ha
        have hb : b = d[m]! := by simpa using hb
        subst hb
        have e1 := hs j (m - 1) (by omega) (by omega)
        have e2 := hs (m - 1) m (by omega) (by omega)
        rcases hk' with h | h
        · omega
        · omega
      · rw [List.mem_append, h2]
        constructor
        · rintro (⟨j, hj, e⟩ | h)
          · exact ⟨j, by omega, e⟩
          · have h : x = d[m]! := by simpa using h
            exact ⟨m, by omega, h.symm⟩
        · rintro ⟨j, hj, e⟩
          by_cases hjm : j < m
          · exact .inl ⟨j, hjm, e⟩
          · obtain rfl : j = m := by omega
            right; simp [e]
    · rw [if_neg hk, List.append_nil]
      have hk' : ¬ (m = 0 ∨ d[m]! ≠ d[m - 1]!) := by simpa [Lib.keeps] using hk
      have hm0 : m ≠ 0 := fun h => hk' (.inl h)
      have he : d[m]! = d[m - 1]! := Classical.byContradiction fun h => hk' (.inr h)
      refine ⟨h1, fun x => ?_⟩
      rw [h2]
      constructor
      · rintro ⟨j, hj, e⟩; exact ⟨j, by omega, e⟩
      · rintro ⟨j, hj, e⟩
        by_cases hjm : j < m
        · exact ⟨j, hjm, e⟩
        · obtain rfl : j = m := by omega
          exact ⟨j - 1, by omega, by rw [← he]; exact e⟩
/-- Sorted, each once. -/
def marked (l : List Int) : List Int := Lib.compact (l.mergeSort fun x y => decide (x ≤ y))
theorem marked_spec (l : List Int) : (marked l).Pairwise (· < ·) ∧ ∀ x, x ∈ marked l ↔ x ∈ l := by
  unfold marked
  obtain ⟨z, hz⟩ : ∃ z, z = l.mergeSort fun x y => decide (x ≤ y) := ⟨_, rfl⟩
  have hp : z.Pairwise (fun x y => decide (x ≤ y) = true) := by
    rw [hz]
    exact List.pairwise_mergeSort (fun a b c h1 h2 => by simp only [decide_eq_true_eq] at *; omega) (fun a b => by simp only [Bool.or_eq_true, decide_eq_true_eq]; omega) l
  have hm : ∀ x, x ∈ z ↔ x ∈ l := fun x => by rw [hz]; exact List.mem_mergeSort
  rw [← hz]
  have hs : ∀ i j, i ≤ j → j < z.length → z.toArray[i]! ≤ z.toArray[j]! := by
    intro i j hij hj
    have e1 : z.toArray[i]! = z[i]'(by omega) := by rw [getElem!_pos z.toArray i (by simpa using Nat.lt_of_le_of_lt hij hj)]; simp
    have e2 : z.toArray[j]! = z[j] := by rw [getElem!_pos z.toArray j (by simpa using hj)]; simp
    rw [e1, e2]
    rcases Nat.lt_or_eq_of_le hij with h | h
    · have := List.pairwise_iff_getElem.1 hp i j (by omega) hj h
      simpa using this
    · subst h; exact Int.le_refl _
  obtain ⟨h1, h2⟩ := compact_upto z.toArray z.length hs z.length (Nat.le_refl _)
  refine ⟨h1, fun x => ?_⟩
  rw [← hm]
  show x ∈ Lib.compactUpTo z.toArray z.length ↔ _
  rw [h2]
  constructor
  · rintro ⟨j, hj, rfl⟩
    rw [getElem!_pos z.toArray j (by simpa using hj)]
    simp
  · intro hx
    obtain ⟨j, hj, e⟩ := List.mem_iff_getElem.1 hx
    exact ⟨j, hj, by rw [getElem!_pos z.toArray j (by simpa using hj)]; simpa using e⟩
/-- Two lists in order with the same members are the same. -/
theorem sorted_same : ∀ {a b : List Int}, a.Pairwise (· < ·) → b.Pairwise (· < ·) → (∀ x, x ∈ a ↔ x ∈ b) → a = b
  | [], [], _, _, _ => rfl
  | [], y :: b, _, _, h => absurd ((h y).2 (by simp)) (by simp)
  | x :: a, [], _, _, h => absurd ((h x).1 (by simp)) (by simp)
  | x :: a, y :: b, ha, hb, h => by
    obtain ⟨a1, a2⟩ := List.pairwise_cons.1 ha
    obtain ⟨b1, b2⟩ := List.pairwise_cons.1 hb
    have hxy : x = y := by
      have h1 := (h x).1 (by simp)
      have h2 := (h y).2 (by simp)
      rw [List.mem_cons] at h1 h2
      rcases h1 with h1 | h1
      · exact h1
      · rcases h2 with h2 | h2
        · exact h2.symm
        · have := b1 _ h1; have := a1 _ h2; omega
    subst hxy
    congr 1
    refine sorted_same a2 b2 fun z => ?_
    have hz := h z
    rw [List.mem_cons, List.mem_cons] at hz
    constructor
    · intro hza
      rcases hz.1 (.inr hza) with e | e
      · have := a1 _ hza; omega
      · exact e
    · intro hzb
      rcases hz.2 (.inr hzb) with e | e
      · have := b1 _ hzb; omega
      · exact e
theorem marked_same {a b : List Int} (h : ∀ x, x ∈ a ↔ x ∈ b) : marked a = marked b := by
  obtain ⟨a1, a2⟩ := marked_spec a
  obtain ⟨b1, b2⟩ := marked_spec b
  exact sorted_same a1 b1 fun x => by rw [a2, b2, h]

/-- What stands in a frame, but for its event. -/
structure Sh where
  reel : ByteArray
  fr : Int
  src : ByteArray
  sf : Int
  share : Nat
deriving DecidableEq
def shareB (n l : Int) : Nat := fop .quo (floatOfInt .f32 (n + 1)) (floatOfInt .f32 (l + 1))
def hit (es : List Ev) (f : Int) (k : Nat) : Bool := decide ((es.getD k default).pos ≤ f) && decide (f < (es.getD k default).stop)
def shOf (es : List Ev) (f : Int) (k : Nat) : Sh :=
  let v := es.getD k default
  let u := es.getD (k - 1) default
  if f - v.pos < v.len then ⟨v.reel, v.inn + f - v.pos, u.reel, u.inn + f - u.pos, shareB (f - v.pos) v.len⟩ else ⟨v.reel, v.inn + f - v.pos, ⟨#[]⟩, 0, 1065353216⟩
def atK (es : List Ev) (f : Int) : Option Nat := (List.range es.length).find? (hit es f)
theorem atK_none {es : List Ev} {f : Int} (h : ∀ j, j < es.length → hit es f j = false) : atK es f = none := by
  unfold atK
  rw [List.find?_eq_none]
  intro j hj
  rw [h j (List.mem_range.1 hj)]; simp
theorem atK_some {es : List Ev} {f : Int} {k : Nat} (hk : k < es.length) (h : hit es f k = true) (hl : ∀ j, j < k → hit es f j = false) : atK es f = some k := by
  unfold atK
  rw [List.find?_range_eq_some]
  exact ⟨h, List.mem_range.2 hk, fun j hj => by rw [hl j hj]; rfl⟩
theorem atK_is {es : List Ev} {f : Int} {k : Nat} (h : atK es f = some k) : k < es.length ∧ hit es f k = true := by
  unfold atK at h
  exact ⟨List.mem_range.1 (List.mem_of_find?_eq_some h), List.find?_some h⟩
def alike2 (es ds : List Ev) (f : Int) : Bool := match atK es f, atK ds f with
  | none, none => true
  | some k, some j => decide (shOf es f k = shOf ds f j)
  | _, _ => false
def marksP : List Ev → List Int
  | [] => []
  | v :: r => ([v.pos, v.stop] ++ (List.range v.len.toNat).map fun (k : Nat) => v.pos + ((k : Int) + 1)) ++ marksP r
def marksR : List Ev → List Int
  | [] => []
  | v :: r => ([v.pos, v.stop] ++ (List.range (v.len + 1).toNat).map fun (k : Nat) => v.pos + (k : Int)) ++ marksR r
theorem marks_mem (es : List Ev) (x : Int) : (∀ v, v ∈ es → 0 ≤ v.len) → (x ∈ marksP es ↔ x ∈ marksR es) := by
  induction es with
  | nil => intro _; exact Iff.rfl
  | cons v r ih =>
    intro h
    have h0 := h v (by simp)
    have ih := ih fun u hu => h u (by simp [hu])
    unfold marksP marksR
    rw [List.mem_append, List.mem_append, ih, List.mem_append, List.mem_append]
    have e : x ∈ (List.range (v.len + 1).toNat).map (fun (k : Nat) => v.pos + (k : Int)) ↔ x = v.pos ∨ x ∈ (List.range v.len.toNat).map fun (k : Nat) => v.pos + ((k : Int) + 1) := by
      simp only [List.mem_map, List.mem_range]
      constructor
      · rintro ⟨k, hk, rfl⟩
        by_cases hk0 : k = 0
        · left; subst hk0; simp
        · right; exact ⟨k - 1, by omega, by omega⟩
      · rintro (rfl | ⟨k, hk, rfl⟩)
        · exact ⟨0, by omega, by simp⟩
        · exact ⟨k + 1, by omega, by omega⟩
    rw [e]
    constructor
    · rintro ((h | h) | h)
      · exact .inl (.inl h)
      · exact .inl (.inr (.inr h))
      · exact .inr h
    · rintro ((h | h | h) | h)
      · exact .inl (.inl h)
      · subst h; exact .inl (.inl (by simp))
      · exact .inl (.inr h)
      · exact .inr h
theorem marksP_in {es : List Ev} {v : Ev} (h : v ∈ es) : v.pos ∈ marksP es ∧ v.stop ∈ marksP es ∧ ∀ k : Nat, (k : Int) < v.len → v.pos + ((k : Int) + 1) ∈ marksP es := by
  induction es with
  | nil => cases h
  | cons u r ih =>
    unfold marksP
    simp only [List.mem_append]
    rcases List.mem_cons.1 h with e | h
    · subst e
      refine ⟨.inl (.inl (by simp)), .inl (.inl (by simp)), fun k hk => .inl (.inr ?_)⟩
      exact List.mem_map.2 ⟨k, List.mem_range.2 (by omega), rfl⟩
    · obtain ⟨i1, i2, i3⟩ := ih h
      exact ⟨.inr i1, .inr i2, fun k hk => .inr (i3 k hk)⟩
/-- All marks of a list of events lie at or below an end of an event. -/
theorem marksP_le {es : List Ev} {last : Int} (h : ∀ v, v ∈ es → v.stop ≤ last ∧ v.pos ≤ v.stop ∧ v.pos + v.len ≤ v.stop ∧ 0 ≤ v.pos) : ∀ x, x ∈ marksP es → 0 ≤ x ∧ x ≤ last := by
  induction es with
  | nil => intro x hx; cases hx
  | cons u r ih =>
    intro x hx
    unfold marksP at hx
    obtain ⟨h1, h2, h3, h4⟩ := h u (by simp)
    simp only [List.mem_append] at hx
    rcases hx with (hx | hx) | hx
    · have : x = u.pos ∨ x = u.stop := by simpa using hx
      omega
    · obtain ⟨k, hk, rfl⟩ := List.mem_map.1 hx
      have := List.mem_range.1 hk
      omega
    · exact ih (fun v hv => h v (by simp [hv])) x hx
/-- Between two marks both go on evenly. -/
theorem hit_even {es : List Ev} {m f : Int} (hmf : m ≤ f) (hq : ∀ x, x ∈ marksP es → x ≤ m ∨ f < x) {k : Nat} (hk : k < es.length) : hit es f k = hit es m k := by
  have hv : es.getD k default ∈ es := by rw [show es.getD k default = es[k] by simp [List.getD, hk]]; exact List.getElem_mem hk
  obtain ⟨i1, i2, _⟩ := marksP_in hv
  have a1 := hq _ i1
  have a2 := hq _ i2
  unfold hit
  congr 1
  · rw [decide_eq_decide]; omega
  · rw [decide_eq_decide]; omega
theorem atK_even {es : List Ev} {m f : Int} (hmf : m ≤ f) (hq : ∀ x, x ∈ marksP es → x ≤ m ∨ f < x) : atK es f = atK es m := by
  cases h : atK es m with
  | none =>
    refine atK_none fun j hj => ?_
    rw [hit_even hmf hq hj]
    unfold atK at h
    rw [List.find?_eq_none] at h
    simpa using h j (List.mem_range.2 hj)
  | some k =>
    unfold atK at h ⊢
    rw [List.find?_range_eq_some] at h ⊢
    obtain ⟨h1, h2, h3⟩ := h
    have hk := List.mem_range.1 h2
    exact ⟨by rw [hit_even hmf hq hk]; exact h1, h2, fun j hj => by rw [hit_even hmf hq (by omega)]; exact h3 j hj⟩
theorem sh_even {es : List Ev} {m f : Int} (hmf : m < f) (hq : ∀ x, x ∈ marksP es → x ≤ m ∨ f < x) {k : Nat} (hk : k < es.length) (hm : hit es m k = true) :
    shOf es m k = ⟨(es.getD k default).reel, (es.getD k default).inn + m - (es.getD k default).pos, ⟨#[]⟩, 0, 1065353216⟩ ∧ shOf es f k = ⟨(es.getD k default).reel, (es.getD k default).inn + f - (es.getD k default).pos, ⟨#[]⟩, 0, 1065353216⟩ := by
  have hv : es.getD k default ∈ es := by rw [show es.getD k default = es[k] by simp [List.getD, hk]]; exact List.getElem_mem hk
  obtain ⟨_, _, i3⟩ := marksP_in hv
  unfold hit at hm
  simp only [Bool.and_eq_true, decide_eq_true_eq] at hm
  have hn : ¬ m - (es.getD k default).pos < (es.getD k default).len := by
    intro h
    have := i3 (m - (es.getD k default).pos).toNat (by omega)
    have := hq _ this
    omega
  unfold shOf
  simp only []
  rw [if_neg hn, if_neg (by omega)]
  exact ⟨rfl, rfl⟩
theorem alike_even {es ds : List Ev} {m f : Int} (hmf : m ≤ f) (h1 : ∀ x, x ∈ marksP es → x ≤ m ∨ f < x) (h2 : ∀ x, x ∈ marksP ds → x ≤ m ∨ f < x) (h : alike2 es ds m = true) : alike2 es ds f = true := by
  rcases Int.lt_or_eq_of_le hmf with hlt | rfl
  · unfold alike2 at h ⊢
    rw [atK_even hmf h1, atK_even hmf h2]
    cases e1 : atK es m with
    | none => cases e2 : atK ds m with
      | none => rfl
      | some j => rw [e1, e2] at h; cases h
    | some k => cases e2 : atK ds m with
      | none => rw [e1, e2] at h; cases h
      | some j =>
        rw [e1, e2] at h
        obtain ⟨k1, k2⟩ := atK_is e1
        obtain ⟨j1, j2⟩ := atK_is e2
        obtain ⟨a1, a2⟩ := sh_even hlt h1 k1 k2
        obtain ⟨b1, b2⟩ := sh_even hlt h2 j1 j2
        simp only [decide_eq_true_eq] at h ⊢
        rw [a1, b1] at h
        rw [a2, b2]
        injection h with q1 q2
        rw [q1, show (es.getD k default).inn + f - (es.getD k default).pos = (ds.getD j default).inn + f - (ds.getD j default).pos by omega]
  · exact h
/-- One part more of the film. -/
def stepR (out : List (Int × Int)) (m te : Int) (al : Bool) : List (Int × Int) :=
  if al then out else if 0 < out.length ∧ (out.getD (out.length - 1) default).2 = m then out.set (out.length - 1) ((out.getD (out.length - 1) default).1, te) else out ++ [(m, te)]
/-- The ranges of the first k parts. -/
def rngs (M : List Int) (al : Int → Bool) : Nat → List (Int × Int)
  | 0 => []
  | k + 1 => stepR (rngs M al k) (M.getD k 0) (M.getD (k + 1) 0) (al (M.getD k 0))
theorem step_cover {out : List (Int × Int)} {m te : Int} (hmt : m < te) (hle : ∀ r, r ∈ out → r.1 ≤ r.2 ∧ r.2 ≤ m) :
    (∀ r, r ∈ stepR out m te false → r.1 ≤ r.2 ∧ r.2 ≤ te) ∧ (∃ r, r ∈ stepR out m te false ∧ r.1 ≤ m ∧ te ≤ r.2) ∧ ∀ r, r ∈ out → ∃ s, s ∈ stepR out m te false ∧ s.1 ≤ r.1 ∧ r.2 ≤ s.2 := by
  unfold stepR
  rw [if_neg (by simp)]
  by_cases h : 0 < out.length ∧ (out.getD (out.length - 1) default).2 = m
  · rw [if_pos h]
    obtain ⟨h0, h1⟩ := h
    have hi : out.length - 1 < out.length := by omega
    have eg : out.getD (out.length - 1) default = out[out.length - 1] := by simp [List.getD, hi]
    have hmem : out[out.length - 1] ∈ out := List.getElem_mem hi
    have hl := hle _ hmem
    rw [eg] at h1 ⊢
    have hnew : ((out[out.length - 1]).1, te) ∈ out.set (out.length - 1) ((out[out.length - 1]).1, te) := List.mem_set hi _
    refine ⟨fun r hr => ?_, ⟨_, hnew, by simp only []; omega, by simp⟩, fun r hr => ?_⟩
    · rcases List.mem_or_eq_of_mem_set hr with h2 | h2
      · have := hle r h2; omega
      · subst h2; simp only []; omega
    · obtain ⟨j, hj, e⟩ := List.mem_iff_getElem.1 hr
      by_cases hjl : j = out.length - 1
      · subst hjl
        exact ⟨_, hnew, by rw [← e]; simp, by rw [← e]; simp only []; omega⟩
      · refine ⟨r, List.mem_iff_getElem.2 ⟨j, by simpa using hj, ?_⟩, Int.le_refl _, Int.le_refl _⟩
        rw [List.getElem_set_ne (by omega)]; exact e
  · rw [if_neg h]
    refine ⟨fun r hr => ?_, ⟨(m, te), by simp, by simp, by simp⟩, fun r hr => ⟨r, by simp [hr], Int.le_refl _, Int.le_refl _⟩⟩
    rcases List.mem_append.1 hr with h2 | h2
    · have := hle r h2; omega
    · have : r = (m, te) := by simpa using h2
      subst this; simp only []; omega
theorem rngs_cover {M : List Int} {al : Int → Bool} (hM : ∀ i, i + 1 < M.length → M.getD i 0 < M.getD (i + 1) 0) : ∀ k, k + 1 ≤ M.length →
    (∀ r, r ∈ rngs M al k → r.1 ≤ r.2 ∧ r.2 ≤ M.getD k 0) ∧ ∀ j, j < k → al (M.getD j 0) = false → ∃ r, r ∈ rngs M al k ∧ r.1 ≤ M.getD j 0 ∧ M.getD (j + 1) 0 ≤ r.2 := by
  intro k
  induction k with
  | zero => intro _; exact ⟨fun r hr => absurd hr (by simp [rngs]), fun j hj => by omega⟩
  | succ k ih =>
    intro hk
    obtain ⟨h1, h2⟩ := ih (by omega)
    have hlt := hM k (by omega)
    unfold rngs
    cases ha : al (M.getD k 0)
    · obtain ⟨s1, ⟨r, r1, r2, r3⟩, s3⟩ := step_cover hlt h1
      refine ⟨s1, fun j hj hf => ?_⟩
      by_cases hjk : j < k
      · obtain ⟨r, q1, q2, q3⟩ := h2 j hjk hf
        obtain ⟨s, t1, t2, t3⟩ := s3 r q1
        exact ⟨s, t1, by omega, by omega⟩
      · obtain rfl : j = k := by omega
        exact ⟨r, r1, r2, r3⟩
    · have e : stepR (rngs M al k) (M.getD k 0) (M.getD (k + 1) 0) true = rngs M al k := by unfold stepR; rw [if_pos rfl]
      rw [e]
      refine ⟨fun r hr => ?_, fun j hj hf => ?_⟩
      · have := h1 r hr; omega
      · by_cases hjk : j < k
        · exact h2 j hjk hf
        · obtain rfl : j = k := by omega
          rw [ha] at hf; cases hf
theorem part_of {M : List Int} {f : Int} (h0 : M.getD 0 0 ≤ f) : ∀ n, f < M.getD n 0 → ∃ k, k < n ∧ M.getD k 0 ≤ f ∧ f < M.getD (k + 1) 0
  | 0, h => by omega
  | n + 1, h => by
    by_cases h1 : f < M.getD n 0
    · obtain ⟨k, k1, k2, k3⟩ := part_of h0 n h1
      exact ⟨k, by omega, k2, k3⟩
    · exact ⟨n, by omega, by omega, h⟩
theorem mono_of {M : List Int} (hM : M.Pairwise (· < ·)) {i j : Nat} (hij : i < j) (hj : j < M.length) : M.getD i 0 < M.getD j 0 := by
  have := List.pairwise_iff_getElem.1 hM i j (by omega) hj hij
  rw [show M.getD i 0 = M[i]'(by omega) by simp [List.getD, Nat.lt_trans hij hj], show M.getD j 0 = M[j] by simp [List.getD, hj]]
  exact this
/-- Where nothing is told both films have the same. -/
theorem untold {es ds : List Ev} {M : List Int} {last f : Int} (hM : M.Pairwise (· < ·)) (h0 : M.getD 0 0 = 0) (hl : M.getD (M.length - 1) 0 = last) (he : ∀ x, x ∈ marksP es → x ∈ M) (hd : ∀ x, x ∈ marksP ds → x ∈ M)
    (se : ∀ v, v ∈ es → v.stop ≤ last) (sd : ∀ v, v ∈ ds → v.stop ≤ last) (hf : 0 ≤ f) (hno : ∀ r, r ∈ rngs M (alike2 es ds) (M.length - 1) → ¬ (r.1 ≤ f ∧ f < r.2)) : alike2 es ds f = true := by
  have none_of : ∀ zs : List Ev, (∀ v, v ∈ zs → v.stop ≤ last) → last ≤ f → atK zs f = none := by
    intro zs hz hlf
    refine atK_none fun j hj => ?_
    have hv : zs.getD j default ∈ zs := by rw [show zs.getD j default = zs[j] by simp [List.getD, hj]]; exact List.getElem_mem hj
    have := hz _ hv
    unfold hit
    rw [decide_eq_false (show ¬ f < (zs.getD j default).stop by omega), Bool.and_false]
  rcases Int.lt_or_le f last with hlf | hlf
  · obtain ⟨k, k1, k2, k3⟩ := part_of (by rw [h0]; exact hf) (M.length - 1) (by rw [hl]; exact hlf)
    have hmk : ∀ x, x ∈ M → x ≤ M.getD k 0 ∨ f < x := by
      intro x hx
      obtain ⟨i, hi, e⟩ := List.mem_iff_getElem.1 hx
      have e : M.getD i 0 = x := by simp [List.getD, hi, e]
      rcases Nat.lt_or_ge i (k + 1) with h | h
      · left
        rcases Nat.lt_or_eq_of_le (Nat.le_of_lt_succ h) with h2 | rfl
        · have := mono_of hM h2 (by omega); omega
        · omega
      · right
        rcases Nat.lt_or_eq_of_le h with h2 | rfl
        · have := mono_of hM h2 hi; omega
        · omega
    cases ha : alike2 es ds (M.getD k 0)
    · exfalso
      obtain ⟨r, r1, r2, r3⟩ := (rngs_cover (fun i hi => mono_of hM (by omega) hi) (M.length - 1) (by omega)).2 k k1 ha
      exact hno r r1 ⟨by omega, by omega⟩
    · exact alike_even k2 (fun x hx => hmk x (he x hx)) (fun x hx => hmk x (hd x hx)) ha
  · unfold alike2
    rw [none_of es se hlf, none_of ds sd hlf]
end Go.Proofs.YtemlabmmafcapaaGreatDoor
