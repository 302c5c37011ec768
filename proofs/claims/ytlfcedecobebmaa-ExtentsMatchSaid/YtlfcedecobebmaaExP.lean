/- The order of singles: their places; what sorted lists of them are. No program in sight. -/
import Derived.Test.YtlfcedecobebmaaStP
import Derived.Test.YtlfcedecobebmaaDfQ
namespace Go.Proofs.Ytlfcedecobebmaa
open Go.RowKit Ieee

/-- The place of a single in the order of all. -/
def plc (b : Nat) : Int := if 2147483648 ≤ b then 2147483647 - (b : Int) else (b : Int)
/-- A word that a frame holds behind Clean. -/
def Wd (b : Nat) : Prop := b < 4294967296 ∧ canon b = b
def lessP (a b : Nat) : Int := if isNaN a && isNaN b then 0 else if isNaN a then 1 else if isNaN b then -1 else plc a - plc b
def lessR (a b : Nat) : Int := if isNaN a && isNaN b then 0 else if isNaN a then 1 else if isNaN b then -1 else if plc b - plc a > 0 then -1 else if plc b - plc a < 0 then 1 else 0

theorem plc_bd {b : Nat} (h : b < 4294967296) : -2147483648 ≤ plc b ∧ plc b < 2147483648 := by unfold plc; split <;> omega
theorem plc_inj {a b : Nat} (h : plc a = plc b) : a = b := by unfold plc at h; split at h <;> split at h <;> omega

theorem less_sign (a b : Nat) : (lessR a b < 0 ↔ lessP a b < 0) ∧ (lessR a b > 0 ↔ lessP a b > 0) := by
  unfold lessP lessR
  split
  · exact ⟨Iff.rfl, Iff.rfl⟩
  · split
    · exact ⟨Iff.rfl, Iff.rfl⟩
    · split
      · exact ⟨Iff.rfl, Iff.rfl⟩
      · split
        · omega
        · split <;> omega
theorem lessP_ord : St.Ord lessP Wd := by
  refine ⟨fun x y _ _ h => ?_, fun x y z _ _ _ h1 h2 => ?_⟩
  · unfold lessP at *
    cases hx : isNaN x <;> cases hy : isNaN y <;> simp only [hx, hy, Bool.and_true, Bool.and_false, Bool.false_and, Bool.true_and, if_true, if_false, Bool.false_eq_true] at * <;> omega
  · unfold lessP at *
    cases hx : isNaN x <;> cases hy : isNaN y <;> cases hz : isNaN z <;> simp only [hx, hy, hz, Bool.and_true, Bool.and_false, Bool.false_and, Bool.true_and, if_true, if_false, Bool.false_eq_true] at * <;> omega
theorem lessR_ord : St.Ord lessR Wd := by
  refine ⟨fun x y hx hy h => ?_, fun x y z hx hy hz h1 h2 => ?_⟩
  · rw [(less_sign _ _).1] at *; exact lessP_ord.asym x y hx hy h
  · rw [(less_sign _ _).1] at *; exact lessP_ord.trans x y z hx hy hz h1 h2

/-- Of one class: the same word. -/
theorem less_eqv {x y : Nat} (hx : Wd x) (hy : Wd y) (h1 : ¬ lessP x y < 0) (h2 : ¬ lessP y x < 0) : x = y := by
  unfold lessP at *
  cases ex : isNaN x <;> cases ey : isNaN y <;> simp only [ex, ey, Bool.and_true, Bool.and_false, Bool.false_and, Bool.true_and, if_true, if_false, Bool.false_eq_true] at h1 h2
  · exact plc_inj (by omega)
  · omega
  · omega
  · have a := hx.2
    have b := hy.2
    rw [canon_of_nan ex] at a
    rw [canon_of_nan ey] at b
    omega

/-- The sorted list, whichever comparison sorted it. -/
theorem srt_same {l Z1 Z2 : List Nat} (h1 : St.Srt lessP Z1) (s1 : St.Stb lessP Wd l Z1) (v1 : St.VL Wd Z1) (h2 : St.Srt lessR Z2) (s2 : St.Stb lessR Wd l Z2) (v2 : St.VL Wd Z2) : Z1 = Z2 := by
  have e : ∀ x y, St.eqv lessR x y = St.eqv lessP x y := fun x y => by
    unfold St.eqv
    rw [decide_eq_decide, (less_sign x y).1, (less_sign y x).1]
  refine St.srt_uniq lessP_ord v1 v2 h1 ?_ ⟨by rw [s1.1, s2.1], fun z hz => ?_⟩
  · refine List.Pairwise.imp ?_ h2
    intro a b h
    unfold St.le at *
    rw [(less_sign _ _).1] at h; exact h
  · rw [s1.2 z hz]
    have := s2.2 z hz
    simp only [show St.eqv lessR z = St.eqv lessP z from funext fun y => e z y] at this
    exact this

/-- The elements that stay. -/
def keepN (l : List Nat) : List Nat := l.filter fun b => !isNaN b

/-- The least one, as MinFunc finds it; the greatest one, as MaxFunc does. -/
def minF (c : Nat → Nat → Int) : List Nat → Nat → Nat
  | [], m => m
  | x :: r, m => minF c r (if c x m < 0 then x else m)
def maxF (c : Nat → Nat → Int) : List Nat → Nat → Nat
  | [], m => m
  | x :: r, m => maxF c r (if c x m > 0 then x else m)

theorem minF_mem (c : Nat → Nat → Int) : ∀ (l : List Nat) (m : Nat), minF c l m ∈ m :: l
  | [], m => List.mem_cons_self
  | x :: r, m => by
    have h := minF_mem c r (if c x m < 0 then x else m)
    show minF c r _ ∈ _
    rcases List.mem_cons.1 h with h | h
    · rw [h]; split
      · exact List.mem_cons_of_mem _ List.mem_cons_self
      · exact List.mem_cons_self
    · exact List.mem_cons_of_mem _ (List.mem_cons_of_mem _ h)
theorem maxF_mem (c : Nat → Nat → Int) : ∀ (l : List Nat) (m : Nat), maxF c l m ∈ m :: l
  | [], m => List.mem_cons_self
  | x :: r, m => by
    have h := maxF_mem c r (if c x m > 0 then x else m)
    show maxF c r _ ∈ _
    rcases List.mem_cons.1 h with h | h
    · rw [h]; split
      · exact List.mem_cons_of_mem _ List.mem_cons_self
      · exact List.mem_cons_self
    · exact List.mem_cons_of_mem _ (List.mem_cons_of_mem _ h)
theorem minF_le : ∀ (l : List Nat) (m : Nat), Wd m → St.VL Wd l → ∀ y ∈ m :: l, ¬ lessP y (minF lessP l m) < 0
  | [], m, hm, _, y, hy => by
    obtain rfl : y = m := by simpa using hy
    exact lessP_ord.irr hm
  | x :: r, m, hm, hl, y, hy => by
    obtain ⟨hx, hr⟩ := St.VL.cons.1 hl
    have hq : Wd (if lessP x m < 0 then x else m) := by split <;> assumption
    have ih := minF_le r _ hq hr
    have hmem : Wd (minF lessP r (if lessP x m < 0 then x else m)) := by
      rcases List.mem_cons.1 (minF_mem lessP r (if lessP x m < 0 then x else m)) with h | h
      · rw [h]; exact hq
      · exact hr _ h
    have h0 := ih _ List.mem_cons_self
    show ¬ lessP y (minF lessP r (if lessP x m < 0 then x else m)) < 0
    rcases List.mem_cons.1 hy with rfl | hy
    · refine lessP_ord.trans _ _ _ hmem hq hm h0 ?_
      split
      · rename_i h; exact lessP_ord.asym _ _ hx hm h
      · exact lessP_ord.irr hm
    · rcases List.mem_cons.1 hy with rfl | hy
      · refine lessP_ord.trans _ _ _ hmem hq hx h0 ?_
        split
        · exact lessP_ord.irr hx
        · rename_i h; exact h
      · exact ih y (List.mem_cons_of_mem _ hy)
theorem lessP_gt {x y : Nat} : lessP x y > 0 ↔ lessP y x < 0 := by
  unfold lessP
  cases ex : isNaN x <;> cases ey : isNaN y <;> simp only [Bool.and_true, Bool.and_false, Bool.false_and, Bool.true_and, if_true, if_false, Bool.false_eq_true] <;> omega
theorem maxF_le : ∀ (l : List Nat) (m : Nat), Wd m → St.VL Wd l → ∀ y ∈ m :: l, ¬ lessP (maxF lessP l m) y < 0
  | [], m, hm, _, y, hy => by
    obtain rfl : y = m := by simpa using hy
    exact lessP_ord.irr hm
  | x :: r, m, hm, hl, y, hy => by
    obtain ⟨hx, hr⟩ := St.VL.cons.1 hl
    have hq : Wd (if lessP x m > 0 then x else m) := by split <;> assumption
    have ih := maxF_le r _ hq hr
    have hmem : Wd (maxF lessP r (if lessP x m > 0 then x else m)) := by
      rcases List.mem_cons.1 (maxF_mem lessP r (if lessP x m > 0 then x else m)) with h | h
      · rw [h]; exact hq
      · exact hr _ h
    have h0 := ih _ List.mem_cons_self
    show ¬ lessP (maxF lessP r (if lessP x m > 0 then x else m)) y < 0
    rcases List.mem_cons.1 hy with rfl | hy
    · refine lessP_ord.trans _ _ _ hm hq hmem ?_ h0
      split
      · rename_i h; exact lessP_ord.asym _ _ hm hx (lessP_gt.1 h)
      · exact lessP_ord.irr hm
    · rcases List.mem_cons.1 hy with rfl | hy
      · refine lessP_ord.trans _ _ _ hx hq hmem ?_ h0
        split
        · exact lessP_ord.irr hx
        · rename_i h; rw [lessP_gt] at h; exact h
      · exact ih y (List.mem_cons_of_mem _ hy)

theorem stb_mem {l Z : List Nat} (s : St.Stb lessP Wd l Z) (hl : St.VL Wd l) {x : Nat} (hx : x ∈ l) : x ∈ Z := by
  have h1 : x ∈ l.filter (St.eqv lessP x) := List.mem_filter.2 ⟨hx, lessP_ord.self (hl x hx)⟩
  rw [← s.2 x (hl x hx)] at h1
  exact (List.mem_filter.1 h1).1
/-- The ends of the sorted list. -/
theorem srt_first {l Z : List Nat} {m : Nat} (hm : Wd m) (hl : St.VL Wd l) (h : St.Srt lessP Z) (s : St.Stb lessP Wd (m :: l) Z) (v : St.VL Wd Z) : Z.getD 0 0 = minF lessP l m := by
  have hml : St.VL Wd (m :: l) := St.VL.cons.2 ⟨hm, hl⟩
  cases Z with
  | nil => have := s.1; simp at this
  | cons z Z' =>
    show z = _
    have hz := v z List.mem_cons_self
    have hmm := minF_mem lessP l m
    have hw : Wd (minF lessP l m) := hml _ hmm
    have h1 : z ∈ m :: l := s.mem lessP_ord hml v List.mem_cons_self
    have h2 := minF_le l m hm hl z h1
    have h3 := stb_mem s hml hmm
    refine less_eqv hz hw h2 ?_
    rcases List.mem_cons.1 h3 with h4 | h4
    · rw [h4]; exact lessP_ord.irr hz
    · exact (List.pairwise_cons.1 h).1 _ h4
theorem srt_last {l Z : List Nat} {m : Nat} (hm : Wd m) (hl : St.VL Wd l) (h : St.Srt lessP Z) (s : St.Stb lessP Wd (m :: l) Z) (v : St.VL Wd Z) : Z.getD (Z.length - 1) 0 = maxF lessP l m := by
  have hml : St.VL Wd (m :: l) := St.VL.cons.2 ⟨hm, hl⟩
  have hlen : Z.length = l.length + 1 := by have := s.1; simpa using this
  have hmm := maxF_mem lessP l m
  have hw : Wd (maxF lessP l m) := hml _ hmm
  have h3 := stb_mem s hml hmm
  obtain ⟨k, hk, e⟩ := List.mem_iff_getElem.1 h3
  have hg : Z.getD (Z.length - 1) 0 = Z[Z.length - 1] := by simp [List.getD_eq_getElem?_getD, show Z.length - 1 < Z.length by omega]
  rw [hg]
  have hzm : Z[Z.length - 1] ∈ Z := List.getElem_mem _
  have h1 : Z[Z.length - 1] ∈ m :: l := s.mem lessP_ord hml v hzm
  have h2 := maxF_le l m hm hl _ h1
  refine less_eqv (v _ hzm) hw ?_ h2
  have := h.at lessP_ord v (i := k) (j := Z.length - 1) (List.getElem?_eq_getElem hk) (List.getElem?_eq_getElem (by omega)) (by omega)
  rw [e] at this
  exact this
end Go.Proofs.Ytlfcedecobebmaa
