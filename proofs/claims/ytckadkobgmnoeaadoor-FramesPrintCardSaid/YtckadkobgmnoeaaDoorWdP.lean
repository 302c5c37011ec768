/- Words of a line, plain: read, and quoted. No program in sight. -/
import Derived.Test.YtckadkobgmnoeaaDoorMem
namespace Go.Proofs.YtckadkobgmnoeaaDoor

def blk (c : UInt8) : Bool := c == 32 || c == 9
/-- A word without quotes: up to a blank; a quote within is an error. -/
def bare : List UInt8 → Option (List UInt8 × List UInt8)
  | [] => some ([], [])
  | c :: s => if blk c then some ([], c :: s) else if c = 34 then none else (bare s).map fun z => (c :: z.1, z.2)
/-- The rest of a quoted word. -/
def quoted : List UInt8 → Option (List UInt8 × List UInt8)
  | [] => none
  | 34 :: s => some ([], s)
  | [92] => none
  | 92 :: c :: s => (quoted s).map fun z => ((if c = 110 then 10 else c) :: z.1, z.2)
  | c :: s => (quoted s).map fun z => (c :: z.1, z.2)
/-- Behind a quoted word stands a blank, or nothing. -/
def endOk : List UInt8 → Bool
  | [] => true
  | c :: _ => blk c
def wordsF : Nat → List UInt8 → Option (List (List UInt8))
  | _, [] => some []
  | 0, _ :: _ => some []
  | n + 1, c :: s =>
    if blk c then wordsF n s else if c = 34 then (match quoted s with | none => none | some (w, r) => if endOk r then (wordsF n r).map (w :: ·) else none)
    else (match bare (c :: s) with | none => none | some (w, r) => (wordsF n r).map (w :: ·))
def wordsL (s : List UInt8) : Option (List (List UInt8)) := wordsF s.length s

theorem bare_len : ∀ (s w r : List UInt8), bare s = some (w, r) → r.length ≤ s.length ∧ s = w ++ r
  | [], w, r, h => by
    simp only [bare, Option.some.injEq, Prod.mk.injEq] at h
    obtain ⟨rfl, rfl⟩ := h
    exact ⟨Nat.le_refl _, rfl⟩
  | c :: s, w, r, h => by
    rw [bare] at h
    split at h
    · simp only [Option.some.injEq, Prod.mk.injEq] at h
      obtain ⟨rfl, rfl⟩ := h
      exact ⟨Nat.le_refl _, rfl⟩
    · split at h
      · cases h
      · rw [Option.map_eq_some_iff] at h
        obtain ⟨⟨w', r'⟩, h1, h2⟩ := h
        simp only [Prod.mk.injEq] at h2
        obtain ⟨rfl, rfl⟩ := h2
        obtain ⟨a, b⟩ := bare_len s w' r' h1
        exact ⟨by rw [List.length_cons]; omega, by rw [List.cons_append, ← b]⟩
theorem bare_step {c : UInt8} {s w r : List UInt8} (h1 : blk c = false) (h : bare (c :: s) = some (w, r)) : r.length < (c :: s).length := by
  rw [bare, if_neg (by rw [h1]; simp)] at h
  split at h
  · cases h
  · rw [Option.map_eq_some_iff] at h
    obtain ⟨⟨w', r'⟩, h2, h3⟩ := h
    simp only [Prod.mk.injEq] at h3
    obtain ⟨rfl, rfl⟩ := h3
    have := (bare_len s w' r' h2).1
    rw [List.length_cons]; omega
theorem quoted_len : ∀ (n : Nat) (s w r : List UInt8), s.length ≤ n → quoted s = some (w, r) → r.length < s.length
  | n, [], w, r, hn, h => by simp [quoted] at h
  | n + 1, c :: s, w, r, hn, h => by
    rw [List.length_cons] at hn
    unfold quoted at h
    split at h
    · cases h
    · rename_i heq
      simp only [List.cons.injEq] at heq
      obtain ⟨rfl, rfl⟩ := heq
      simp only [Option.some.injEq, Prod.mk.injEq] at h
      obtain ⟨rfl, rfl⟩ := h
      rw [List.length_cons]; omega
    · cases h
    · rename_i d s' heq
      simp only [List.cons.injEq] at heq
      obtain ⟨rfl, rfl⟩ := heq
      rw [Option.map_eq_some_iff] at h
      obtain ⟨⟨w', r'⟩, h1, h2⟩ := h
      simp only [Prod.mk.injEq] at h2
      obtain ⟨rfl, rfl⟩ := h2
      have := quoted_len n s' w' r' (by simp at hn; omega) h1
      simp; omega
    · rename_i heq
      simp only [List.cons.injEq] at heq
      obtain ⟨rfl, rfl⟩ := heq
      rw [Option.map_eq_some_iff] at h
      obtain ⟨⟨w', r'⟩, h1, h2⟩ := h
      simp only [Prod.mk.injEq] at h2
      obtain ⟨rfl, rfl⟩ := h2
      have := quoted_len n _ w' r' (by omega) h1
      simp; omega
theorem wordsF_fuel : ∀ (n m : Nat) (s : List UInt8), s.length ≤ n → s.length ≤ m → wordsF n s = wordsF m s
  | n, m, [], _, _ => by cases n <;> cases m <;> rfl
  | 0, m, c :: s, h, _ => by simp at h
  | n + 1, 0, c :: s, _, h => by simp at h
  | n + 1, m + 1, c :: s, h1, h2 => by
    rw [List.length_cons] at h1 h2
    rw [wordsF, wordsF]
    by_cases hb : blk c = true
    · rw [if_pos hb, if_pos hb]
      exact wordsF_fuel n m s (by omega) (by omega)
    · rw [if_neg hb, if_neg hb]
      by_cases hq : c = 34
      · rw [if_pos hq, if_pos hq]
        cases hqu : quoted s with
        | none => rfl
        | some z =>
          obtain ⟨w, r⟩ := z
          have := quoted_len _ s w r (Nat.le_refl _) hqu
          simp only
          rw [wordsF_fuel n m r (by omega) (by omega)]
      · rw [if_neg hq, if_neg hq]
        cases hba : bare (c :: s) with
        | none => rfl
        | some z =>
          obtain ⟨w, r⟩ := z
          have := bare_step (by simpa using hb) hba
          rw [List.length_cons] at this
          simp only
          rw [wordsF_fuel n m r (by omega) (by omega)]
theorem wordsL_nil : wordsL [] = some [] := rfl
theorem wordsL_blank {c : UInt8} {s : List UInt8} (h : blk c = true) : wordsL (c :: s) = wordsL s := by
  unfold wordsL
  rw [List.length_cons, wordsF, if_pos h]
theorem wordsL_quote {s : List UInt8} : wordsL (34 :: s) = match quoted s with | none => none | some (w, r) => if endOk r then (wordsL r).map (w :: ·) else none := by
  unfold wordsL
  rw [List.length_cons, wordsF, if_neg (by decide), if_pos rfl]
  cases hqu : quoted s with
  | none => rfl
  | some z =>
    obtain ⟨w, r⟩ := z
    have := quoted_len _ s w r (Nat.le_refl _) hqu
    simp only
    rw [wordsF_fuel s.length r.length r (by omega) (Nat.le_refl _)]
theorem wordsL_bare {c : UInt8} {s : List UInt8} (h1 : blk c = false) (h2 : c ≠ 34) : wordsL (c :: s) = match bare (c :: s) with | none => none | some (w, r) => (wordsL r).map (w :: ·) := by
  unfold wordsL
  rw [List.length_cons, wordsF, if_neg (by rw [h1]; simp), if_neg h2]
  cases hba : bare (c :: s) with
  | none => rfl
  | some z =>
    obtain ⟨w, r⟩ := z
    have := bare_step h1 hba
    rw [List.length_cons] at this
    simp only
    rw [wordsF_fuel s.length r.length r (by omega) (Nat.le_refl _)]

/-- What stands for a byte within quotes. -/
def escB (c : UInt8) : List UInt8 := if c = 92 then [92, 92] else if c = 34 then [92, 34] else if c = 10 then [92, 110] else [c]
def esc (k : List UInt8) : List UInt8 := k.flatMap escB
def special (c : UInt8) : Bool := c == 32 || c == 9 || c == 34 || c == 92 || c == 10
def plainW (k : List UInt8) : Bool := !k.isEmpty && !k.any special
def quoteL (k : List UInt8) : List UInt8 := if plainW k then k else 34 :: (esc k ++ [34])
theorem quoted_esc : ∀ (k r : List UInt8), quoted (esc k ++ 34 :: r) = some (k, r)
  | [], r => by show quoted (34 :: r) = _; rw [quoted]
  | c :: k, r => by
    have ih := quoted_esc k r
    show quoted ((escB c ++ esc k) ++ 34 :: r) = _
    rw [List.append_assoc]
    unfold escB
    by_cases h1 : c = 92
    · rw [if_pos h1, h1]
      show quoted (92 :: 92 :: (esc k ++ 34 :: r)) = _
      rw [quoted, ih]; rfl
    · rw [if_neg h1]
      by_cases h2 : c = 34
      · rw [if_pos h2, h2]
        show quoted (92 :: 34 :: (esc k ++ 34 :: r)) = _
        rw [quoted, ih]; rfl
      · rw [if_neg h2]
        by_cases h3 : c = 10
        · rw [if_pos h3, h3]
          show quoted (92 :: 110 :: (esc k ++ 34 :: r)) = _
          rw [quoted, ih]; rfl
        · rw [if_neg h3]
          show quoted (c :: (esc k ++ 34 :: r)) = _
          rw [quoted, ih]
          · rfl
          · exact h2
          · intro h; exact absurd h h1
          · intro d s h; exact absurd h h1
theorem bare_plain : ∀ (k r : List UInt8), k.any special = false → bare (k ++ 32 :: r) = some (k, 32 :: r)
  | [], r, _ => by show bare (32 :: r) = _; rw [bare, if_pos (by decide)]
  | c :: k, r, h => by
    rw [List.any_cons, Bool.or_eq_false_iff] at h
    obtain ⟨h1, h2⟩ := h
    unfold special at h1
    simp only [Bool.or_eq_false_iff, beq_eq_false_iff_ne] at h1
    rw [List.cons_append, bare, if_neg (by unfold blk; simp; exact ⟨h1.1.1.1.1, h1.1.1.1.2⟩), if_neg h1.1.1.2, bare_plain k r h2]
    rfl
/-- What is quoted is read. -/
theorem words_quote (k r : List UInt8) : wordsL (quoteL k ++ 32 :: 9 :: r) = (wordsL r).map (k :: ·) := by
  have hr : wordsL (32 :: 9 :: r) = wordsL r := by rw [wordsL_blank (by decide), wordsL_blank (by decide)]
  unfold quoteL
  by_cases hp : plainW k = true
  · rw [if_pos hp]
    unfold plainW at hp
    simp only [Bool.and_eq_true, Bool.not_eq_true'] at hp
    obtain ⟨h1, h2⟩ := hp
    cases k with
    | nil => cases h1
    | cons c k =>
      have h3 := h2
      rw [List.any_cons, Bool.or_eq_false_iff] at h3
      obtain ⟨h4, -⟩ := h3
      unfold special at h4
      simp only [Bool.or_eq_false_iff, beq_eq_false_iff_ne] at h4
      have hb := bare_plain (c :: k) (9 :: r) h2
      rw [List.cons_append] at hb ⊢
      rw [wordsL_bare (by unfold blk; simp; exact ⟨h4.1.1.1.1, h4.1.1.1.2⟩) h4.1.1.2, hb]
      simp only
      rw [hr]
  · rw [if_neg hp, List.cons_append, wordsL_quote, List.append_assoc, List.singleton_append, quoted_esc]
    simp only
    rw [if_pos (show endOk (32 :: 9 :: r) = true from rfl), hr]
theorem words_all : ∀ (l : List (List UInt8)), wordsL (l.flatMap fun k => quoteL k ++ [32, 9]) = some l
  | [] => rfl
  | k :: l => by
    rw [List.flatMap_cons, List.append_assoc]
    rw [show (quoteL k ++ ([32, 9] ++ l.flatMap fun k => quoteL k ++ [32, 9])) = quoteL k ++ 32 :: 9 :: l.flatMap (fun k => quoteL k ++ [32, 9]) from rfl, words_quote, words_all l]
    rfl
end Go.Proofs.YtckadkobgmnoeaaDoor
