/- A grade whose singles are words of 32 bits; a right one. -/
import Derived.Test.YticekgnmiaidjaaGreatDoorGnB
import Derived.Test.YticekgnmiaidjaaGreatDoorFfM
import Derived.Test.YticekgnmiaidjaaGreatDoorGrU
namespace Go.Proofs.YticekgnmiaidjaaGreatDoor

section
open Go.RowKit Go.Lib

theorem cvsErr_zero {l : List Cv} (h : cvsErr l = 0) : ∀ c ∈ l, hasP c = true → curveErr c = 0 := by
  have key : ∀ (l : List Cv) (e : Int), l.foldl (fun e c => if hasP c = true ∧ e = 0 then curveErr c else e) e = 0 → e = 0 ∧ ∀ c ∈ l, hasP c = true → curveErr c = 0 := by
    intro l
    induction l with
    | nil => intro e h; exact ⟨h, fun c hc => by cases hc⟩
    | cons a l ih =>
      intro e h
      rw [List.foldl_cons] at h
      obtain ⟨h1, h2⟩ := ih _ h
      by_cases hc : hasP a = true ∧ e = 0
      · rw [if_pos hc] at h1
        refine ⟨hc.2, fun c hm hp => ?_⟩
        rcases List.mem_cons.1 hm with rfl | hm
        · exact h1
        · exact h2 c hm hp
      · rw [if_neg hc] at h1
        refine ⟨h1, fun c hm hp => ?_⟩
        rcases List.mem_cons.1 hm with rfl | hm
        · exact absurd ⟨hp, h1⟩ hc
        · exact h2 c hm hp
  exact (key l 0 h).2
theorem nn_zer0 {x : Nat} (h : zer0 x = true) : isNaN x = false := by
  cases hn : isNaN x with
  | false => rfl
  | true =>
    have h1 : rd x = rd x := rfl
    unfold zer0 at h
    rw [show (FloatKind.f32.format.order x 0 == some .eq) = ((rd x).order (rd 0) == some .eq) from rfl] at h
    unfold isNaN at hn
    rw [show (FloatKind.f32.format.order x x != some .eq) = ((rd x).order (rd x) != some .eq) from rfl] at hn
    cases hr : rd x with
    | nan p q => rw [hr] at h; simp [Ieee.Datum.order] at h
    | infinity s => rw [hr] at hn; cases s <;> simp [Ieee.Datum.order] at hn
    | number s m i =>
      rw [hr] at hn
      have : (Ieee.Datum.number s m i).order (Ieee.Datum.number s m i) = some .eq := by
        show some (compare _ _) = some .eq
        rw [Int.compare_eq_eq.2 rfl]
      rw [this] at hn
      cases hn
theorem nn_num {x : Nat} (h : isNum x = true) : isNaN x = false := by
  cases hn : isNaN x with
  | false => rfl
  | true => rw [isNum_nan hn] at h; cases h
theorem curve_ok {c : Cv} (h : curveErr c = 0) : (c.kind = 1 ∨ c.kind = 2) ∧ c.xs.length = c.ys.length ∧ 2 ≤ c.xs.length ∧ c.xs.length ≤ 32 ∧ c.xs.all isNum = true ∧ c.ys.all isNum = true := by
  unfold curveErr at h
  split at h
  · cases h
  · rename_i h1
    split at h
    · cases h
    · rename_i h2
      split at h
      · cases h
      · rename_i h3
        refine ⟨by omega, by omega, by omega, by omega, ?_, ?_⟩
        · cases hx : c.xs.all isNum
          · exact absurd (.inl hx) h3
          · rfl
        · cases hx : c.ys.all isNum
          · exact absurd (.inr hx) h3
          · rfl
/-- What a right grade is. -/
structure Right (g : Gd) : Prop where
  k1 : 1 ≤ g.kind
  k6 : g.kind ≤ 6
  cvs : ∀ c ∈ g.cvs, c.xs.length = c.ys.length ∧ c.xs.length ≤ 32 ∧ (c.xs.length ≠ 0 → c.kind = 1 ∨ c.kind = 2) ∧ (∀ x ∈ c.xs, isNaN x = false) ∧ ∀ y ∈ c.ys, isNaN y = false
  whe : ∀ x ∈ g.whe, isNaN x = false
  lst : ∀ x ∈ g.lst, isNaN x = false
  mix : ∀ x ∈ g.mix, isNaN x = false
  piv : isNaN g.piv = false
  amt : isNaN g.amt = false
  pts : ∀ n ∈ g.pts, 0 ≤ n ∧ n ≤ 50
theorem right_of {g : Gd} (h : gradeErr g = 0) : Right g := by
  unfold gradeErr at h
  have hk : kindErr g = 0 := by
    by_cases hk : kindErr g = 0
    · exact hk
    · rw [if_pos hk] at h; exact h
  rw [if_neg (by rw [hk]; decide)] at h
  have hs : spareB g = true := by
    cases hs : spareB g
    · rw [hs] at h; cases h
    · rfl
  unfold spareB at hs
  simp only [Bool.and_eq_true, Bool.or_eq_true, decide_eq_true_eq, Bool.not_eq_true'] at hs
  obtain ⟨s0, s1, s2, s3, s4, s5⟩ := hs
  have hall : ∀ (xs : List Nat), xs.all zer0 = true → ∀ x ∈ xs, isNaN x = false := fun xs h x hx => nn_zer0 (List.all_eq_true.1 h x hx)
  have hnum : ∀ (xs : List Nat), xs.all isNum = true → ∀ x ∈ xs, isNaN x = false := fun xs h x hx => nn_num (List.all_eq_true.1 h x hx)
  unfold kindErr at hk
  have hkr : 1 ≤ g.kind ∧ g.kind ≤ 6 := by
    repeat (split at hk; · omega)
    cases hk
  refine ⟨hkr.1, hkr.2, fun c hc => ?_, ?_, ?_, ?_, ?_, ?_, ?_⟩
  · have hb := List.any_eq_false.1 s0 c hc
    unfold cvBad at hb
    by_cases hp : hasP c = true
    · by_cases h3 : g.kind = 3
      · rw [if_neg (by omega), if_neg (by omega), if_pos h3] at hk
        obtain ⟨a1, a2, a3, a4, a5, a6⟩ := curve_ok (cvsErr_zero hk c hc hp)
        exact ⟨a2, a4, fun _ => a1, hnum _ a5, hnum _ a6⟩
      · exfalso
        apply hb
        rw [decide_eq_false h3, hp]; simp
    · have hp' : hasP c = false := by simpa using hp
      unfold hasP at hp'
      simp only [Bool.or_eq_false_iff, decide_eq_false_iff_not] at hp'
      have e1 : c.xs = [] := List.length_eq_zero_iff.1 (by omega)
      have e2 : c.ys = [] := List.length_eq_zero_iff.1 (by omega)
      rw [e1, e2]
      exact ⟨rfl, by simp, fun h => absurd rfl h, fun x hx => (by cases hx), fun x hx => by cases hx⟩
  · rcases s1 with h1 | h1
    · rw [if_pos h1] at hk
      unfold whErr at hk
      split at hk
      · cases hk
      · rename_i h2; exact hnum _ (by simpa using h2)
    · exact hall _ h1
  · rcases s2 with h1 | h1
    · rw [if_neg (by omega), if_pos h1] at hk
      unfold lsErr at hk
      split at hk
      · cases hk
      · rename_i h2; exact hnum _ (by simpa using h2)
    · exact hall _ h1
  · rcases s3 with h1 | h1
    · rw [if_neg (by omega), if_neg (by omega), if_neg (by omega), if_pos h1] at hk
      split at hk
      · rename_i h2; exact hnum _ h2
      · cases hk
    · exact hall _ h1
  · rcases s4 with h1 | h1
    · rw [if_neg (by omega), if_neg (by omega), if_neg (by omega), if_neg (by omega), if_pos h1] at hk
      split at hk
      · rename_i h2; simp only [Bool.and_eq_true] at h2; exact nn_num h2.1
      · cases hk
    · exact nn_zer0 h1.1
  · rcases s4 with h1 | h1
    · rw [if_neg (by omega), if_neg (by omega), if_neg (by omega), if_neg (by omega), if_pos h1] at hk
      split at hk
      · rename_i h2; simp only [Bool.and_eq_true] at h2; exact nn_num h2.2
      · cases hk
    · exact nn_zer0 h1.2
  · rcases s5 with h1 | h1
    · rw [if_neg (by omega), if_neg (by omega), if_neg (by omega), if_neg (by omega), if_neg (by omega), if_pos h1] at hk
      unfold ptsErr at hk
      split at hk
      · cases hk
      · rename_i h2
        intro n hn
        have h2 : (g.pts.any ptBad) = false := by simpa using h2
        have := List.any_eq_false.1 h2 n hn
        unfold ptBad at this
        simp at this
        omega
    · intro n hn
      have := List.all_eq_true.1 h1 n hn
      simp at this
      omega
/-! ### Mixed at the ends -/
end

section
open Go.RowKit Go.Lib

/-- A grade's singles are words of 32 bits. -/
structure GdW (g : Gd) : Prop where
  whe : ∀ x ∈ g.whe, x < 4294967296
  lst : ∀ x ∈ g.lst, x < 4294967296
  mix : ∀ x ∈ g.mix, x < 4294967296
  piv : g.piv < 4294967296
  amt : g.amt < 4294967296
  cvs : ∀ c ∈ g.cvs, (∀ x ∈ c.xs, x < 4294967296) ∧ ∀ y ∈ c.ys, y < 4294967296
theorem getW {xs : List Nat} (h : ∀ x ∈ xs, x < 4294967296) (k : Nat) (hk : k < xs.length) : xs.getD k 0 < 4294967296 := by
  rw [List.getD_eq_getElem?_getD, List.getElem?_eq_getElem hk]
  exact h _ (List.getElem_mem hk)
theorem gdOk {g : Gd} (h : Right g) (w : GdW g) (hp : g.pts.length = 3) : GdOk g := by
  refine ⟨h.k1, h.k6, getW w.whe, getW w.lst, getW w.mix, w.piv, w.amt, fun k hk => ?_, fun c hc => ?_⟩
  · rw [List.getD_eq_getElem?_getD, List.getElem?_eq_getElem (by omega)]
    exact h.pts _ (List.getElem_mem (by omega))
  · obtain ⟨h1, h2, h3, _⟩ := h.cvs c hc
    exact ⟨h1, h2, h3, getW (w.cvs c hc).1, getW (w.cvs c hc).2⟩
end
end Go.Proofs.YticekgnmiaidjaaGreatDoor
