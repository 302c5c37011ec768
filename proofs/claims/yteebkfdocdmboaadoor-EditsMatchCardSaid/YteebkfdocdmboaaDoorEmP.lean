/- What has to be fetched for a list of events: how pulls are ordered, grouped and merged. No program in sight. -/
import Derived.Test.YteebkfdocdmboaaDoorStP
import Derived.Lib.Bytealg
namespace Go.Proofs.YteebkfdocdmboaaDoor

structure Pl where
  reel : ByteArray
  inn : Int
  out : Int
deriving DecidableEq
instance : Inhabited Pl := ⟨⟨⟨#[]⟩, 0, 0⟩⟩

instance decMem (r : ByteArray) (S : List ByteArray) : Decidable (r ∈ S) := decidable_of_iff (∃ s ∈ S, s = r) (by simp)

/-- The order of texts, byte by byte. -/
def cbR (a b : ByteArray) : Int := Lib.compareBytes a.data.toList b.data.toList

theorem cb_refl (l : List UInt8) : Lib.compareBytes l l = 0 := by
  induction l with
  | nil => rfl
  | cons a l ih =>
    unfold Lib.compareBytes
    rw [if_neg (UInt8.lt_irrefl a), if_neg (UInt8.lt_irrefl a), ih]
theorem cb_eq : ∀ {a b : List UInt8}, Lib.compareBytes a b = 0 → a = b
  | [], [], _ => rfl
  | [], _ :: _, h => by simp [Lib.compareBytes] at h
  | _ :: _, [], h => by simp [Lib.compareBytes] at h
  | a :: as, b :: bs, h => by
    unfold Lib.compareBytes at h
    split at h
    · cases h
    · split at h
      · cases h
      · rename_i h1 h2
        have : a = b := UInt8.le_antisymm (UInt8.not_lt.1 h2) (UInt8.not_lt.1 h1)
        rw [this, cb_eq h]
theorem cb_anti : ∀ (a b : List UInt8), Lib.compareBytes b a = - Lib.compareBytes a b
  | [], [] => rfl
  | [], _ :: _ => rfl
  | _ :: _, [] => rfl
  | a :: as, b :: bs => by
    unfold Lib.compareBytes
    by_cases h1 : a < b
    · have n : ¬ b < a := fun h => UInt8.lt_irrefl a (UInt8.lt_trans h1 h)
      simp [h1, n]
    · by_cases h2 : b < a
      · simp [h1, h2]
      · simp [h1, h2, cb_anti as bs]
theorem cb_trans : ∀ {a b c : List UInt8}, Lib.compareBytes a b ≤ 0 → Lib.compareBytes b c ≤ 0 → Lib.compareBytes a c ≤ 0 ∧ (Lib.compareBytes a c = 0 → Lib.compareBytes a b = 0 ∧ Lib.compareBytes b c = 0)
  | [], [], [], _, _ => ⟨by decide, fun _ => ⟨rfl, rfl⟩⟩
  | [], [], _ :: _, _, _ => ⟨by simp [Lib.compareBytes], fun h => by simp [Lib.compareBytes] at h⟩
  | [], _ :: _, [], _, h => by simp [Lib.compareBytes] at h
  | [], _ :: _, _ :: _, _, _ => ⟨by simp [Lib.compareBytes], fun h => by simp [Lib.compareBytes] at h⟩
  | _ :: _, [], _, h, _ => by simp [Lib.compareBytes] at h
  | _ :: _, _ :: _, [], _, h => by simp [Lib.compareBytes] at h
  | a :: as, b :: bs, c :: cs, h1, h2 => by
    unfold Lib.compareBytes at *
    by_cases hab : a < b
    · by_cases hbc : b < c
      · have hac := UInt8.lt_trans hab hbc
        simp [hac]
      · by_cases hcb : c < b
        · simp [hbc, hcb] at h2
        · have : b = c := UInt8.le_antisymm (UInt8.not_lt.1 hcb) (UInt8.not_lt.1 hbc)
          subst this
          simp [hab]
    · by_cases hba : b < a
      · simp [hab, hba] at h1
      · have : a = b := UInt8.le_antisymm (UInt8.not_lt.1 hba) (UInt8.not_lt.1 hab)
        subst this
        by_cases hac : a < c
        · simp [hac]
        · by_cases hca : c < a
          · simp [hac, hca] at h2
          · simp only [if_neg hab, if_neg hac, if_neg hca] at *
            exact cb_trans h1 h2
theorem cbR_refl (a : ByteArray) : cbR a a = 0 := cb_refl _
theorem cbR_eq {a b : ByteArray} (h : cbR a b = 0) : a = b := by
  have h1 := cb_eq h
  have h2 := Array.toList_inj.1 h1
  cases a; cases b
  simpa using h2
theorem cbR_anti (a b : ByteArray) : cbR b a = - cbR a b := cb_anti _ _
theorem cbR_trans {a b c : ByteArray} (h1 : cbR a b ≤ 0) (h2 : cbR b c ≤ 0) : cbR a c ≤ 0 ∧ (cbR a c = 0 → cbR a b = 0 ∧ cbR b c = 0) := cb_trans h1 h2

/-- The reference's order; the program's, within one reel. -/
def cR (a b : Pl) : Int := if cbR a.reel b.reel = 0 then (if a.inn < b.inn then -1 else if b.inn < a.inn then 1 else 0) else cbR a.reel b.reel
def cP (a b : Pl) : Int := a.inn - b.inn
/-- Pulls whose numbers are small. -/
def Vp (p : Pl) : Prop := -1099511627776 ≤ p.inn ∧ p.inn ≤ 1099511627776

theorem cR_neg {a b : Pl} : cR a b < 0 ↔ (cbR a.reel b.reel < 0 ∨ (a.reel = b.reel ∧ a.inn < b.inn)) := by
  unfold cR
  by_cases h : cbR a.reel b.reel = 0
  · rw [if_pos h]
    have hr := cbR_eq h
    constructor
    · intro h2
      right
      refine ⟨hr, ?_⟩
      split at h2
      · assumption
      · split at h2 <;> omega
    · rintro (h2 | ⟨_, h2⟩)
      · omega
      · rw [if_pos h2]; omega
  · rw [if_neg h]
    constructor
    · exact fun h2 => .inl h2
    · rintro (h2 | ⟨h2, _⟩)
      · exact h2
      · rw [h2, cbR_refl] at h; exact absurd rfl h
theorem cR_ord : St.Ord cR Vp := by
  refine ⟨fun x y _ _ h h2 => ?_, fun x y z _ _ _ h1 h2 h3 => ?_⟩
  · rw [cR_neg] at h h2
    have ha := cbR_anti x.reel y.reel
    rcases h with h | ⟨e, h⟩
    · rcases h2 with h2 | ⟨e, h2⟩
      · omega
      · rw [e, cbR_refl] at h; omega
    · rcases h2 with h2 | ⟨_, h2⟩
      · rw [e, cbR_refl] at h2; omega
      · omega
  · rw [cR_neg] at h1 h2 h3
    have a1 := cbR_anti x.reel y.reel
    have a2 := cbR_anti y.reel z.reel
    have a3 := cbR_anti x.reel z.reel
    have k1 : cbR x.reel y.reel ≤ 0 := by
      by_cases h : cbR y.reel x.reel < 0
      · exact absurd (.inl h) h1
      · omega
    have k2 : cbR y.reel z.reel ≤ 0 := by
      by_cases h : cbR z.reel y.reel < 0
      · exact absurd (.inl h) h2
      · omega
    obtain ⟨k3, k4⟩ := cbR_trans k1 k2
    rcases h3 with h3 | ⟨e, h3⟩
    · omega
    · obtain ⟨e1, e2⟩ := k4 (by rw [← e]; exact cbR_refl _)
      have r1 := cbR_eq e1
      have r2 := cbR_eq e2
      have i1 : ¬ y.inn < x.inn := fun h => h1 (.inr ⟨r1.symm, h⟩)
      have i2 : ¬ z.inn < y.inn := fun h => h2 (.inr ⟨r2.symm, h⟩)
      omega
theorem cP_ord : St.Ord cP Vp := ⟨fun x y _ _ h => by unfold cP at *; omega, fun x y z _ _ _ h1 h2 => by unfold cP at *; omega⟩
theorem eqv_R (z p : Pl) : St.eqv cR z p = (decide (z.reel = p.reel) && decide (z.inn = p.inn)) := by
  unfold St.eqv
  rw [← Bool.decide_and, decide_eq_decide, cR_neg, cR_neg]
  have ha := cbR_anti z.reel p.reel
  constructor
  · rintro ⟨h1, h2⟩
    have n1 : ¬ cbR z.reel p.reel < 0 := fun h => h1 (.inl h)
    have n2 : ¬ cbR p.reel z.reel < 0 := fun h => h2 (.inl h)
    have e := cbR_eq (show cbR z.reel p.reel = 0 by omega)
    have i1 : ¬ z.inn < p.inn := fun h => h1 (.inr ⟨e, h⟩)
    have i2 : ¬ p.inn < z.inn := fun h => h2 (.inr ⟨e.symm, h⟩)
    exact ⟨e, by omega⟩
  · rintro ⟨e, i⟩
    rw [e, cbR_refl, i]
    constructor <;> rintro (h | ⟨_, h⟩) <;> omega
theorem eqv_P (z p : Pl) : St.eqv cP z p = decide (z.inn = p.inn) := by
  unfold St.eqv cP
  rw [decide_eq_decide]
  omega

/-- What has been ordered, when the reels S have been gone through. -/
structure Grp (ps : List Pl) (S : List ByteArray) (D : List Pl) : Prop where
  srt : St.Srt cR D
  len : D.length = (ps.filter fun (p : Pl) => decide (p.reel ∈ S)).length
  stb : ∀ z, D.filter (St.eqv cR z) = (ps.filter fun (p : Pl) => decide (p.reel ∈ S)).filter (St.eqv cR z)
  mem : ∀ p ∈ D, p.reel ∈ S
theorem Grp.nil (ps : List Pl) : Grp ps [] [] := ⟨List.Pairwise.nil, by rw [List.filter_eq_nil_iff.2 (fun x _ => by simp)], fun z => by
  have e : (ps.filter fun (p : Pl) => decide (p.reel ∈ ([] : List ByteArray))) = [] := List.filter_eq_nil_iff.2 (fun x _ => by simp)
  rw [e], fun p h => by cases h⟩
theorem filter_or {α : Type} (p q : α → Bool) (l : List α) (h : ∀ x ∈ l, p x = true → q x = false) : (l.filter fun x => p x || q x).length = (l.filter p).length + (l.filter q).length := by
  induction l with
  | nil => rfl
  | cons a l ih =>
    have ih := ih (fun x hx => h x (List.mem_cons_of_mem _ hx))
    have ha := h a List.mem_cons_self
    cases hp : p a <;> cases hq : q a
    · simp [hp, hq, ih]
    · simp [hp, hq, ih]; omega
    · simp [hp, hq, ih]; omega
    · rw [ha hp] at hq; cases hq
theorem Grp.snoc {ps : List Pl} {S : List ByteArray} {D : List Pl} (h : Grp ps S D) (r : ByteArray) (hr : ∀ s ∈ S, cbR s r < 0) (hv : St.VL Vp ps) {Z : List Pl} (sZ : St.Srt cP Z) (tZ : St.Stb cP Vp (ps.filter fun (p : Pl) => decide (p.reel = r)) Z) (vZ : St.VL Vp Z) : Grp ps (S ++ [r]) (D ++ Z) := by
  have hzr : ∀ p ∈ Z, p.reel = r := fun p hp => by
    have hm : p ∈ ps.filter fun (p : Pl) => decide (p.reel = r) := tZ.mem cP_ord (fun x hx => hv x (List.mem_filter.1 hx).1) vZ hp
    simpa using (List.mem_filter.1 hm).2
  have hrS : r ∉ S := fun hm => by have := hr r hm; rw [cbR_refl] at this; omega
  refine ⟨?_, ?_, fun z => ?_, ?_⟩
  · rw [St.Srt.app]
    refine ⟨h.srt, ?_, fun x hx y hy h2 => ?_⟩
    · refine List.Pairwise.imp_of_mem ?_ sZ
      intro a b ha hb hab h2
      rw [cR_neg, hzr a ha, hzr b hb, cbR_refl] at h2
      rcases h2 with h2 | ⟨_, h2⟩
      · omega
      · exact hab (by unfold cP; omega)
    · rw [cR_neg, hzr y hy] at h2
      have h3 := hr _ (h.mem x hx)
      have h4 := cbR_anti x.reel r
      rcases h2 with h2 | ⟨e, _⟩
      · omega
      · rw [← e, cbR_refl] at h3; omega
  · rw [List.length_append, h.len, tZ.1, ← filter_or _ _ _ (fun x _ hx => by
      have hx : x.reel ∈ S := by simpa using hx
      simp only [decide_eq_false_iff_not]
      rintro rfl
      exact hrS hx)]
    congr 1
    apply List.filter_congr
    intro x _
    simp [List.mem_append]
  · rw [List.filter_append, h.stb z]
    by_cases hz : z.reel = r
    · have e1 : (ps.filter fun (p : Pl) => decide (p.reel ∈ S)).filter (St.eqv cR z) = [] := by
        rw [List.filter_eq_nil_iff]
        intro x hx
        have hx : x.reel ∈ S := by simpa using (List.mem_filter.1 hx).2
        rw [eqv_R]
        simp only [Bool.and_eq_true, decide_eq_true_eq, not_and]
        intro e
        rw [← e, hz] at hx
        exact absurd hx hrS
      rw [e1, List.nil_append]
      have e2 : Z.filter (St.eqv cR z) = Z.filter (St.eqv cP z) := List.filter_congr fun x hx => by rw [eqv_R, eqv_P, hzr x hx, hz]; simp
      have hVz : ∃ z', Vp z' ∧ (∀ p, St.eqv cP z p = St.eqv cP z' p) ∨ ∀ p ∈ ps, z.inn ≠ p.inn := by
        by_cases hex : ∃ p ∈ ps, z.inn = p.inn
        · obtain ⟨p, hp, e⟩ := hex
          exact ⟨p, .inl ⟨hv p hp, fun q => by rw [eqv_P, eqv_P, e]⟩⟩
        · exact ⟨z, .inr fun p hp e => hex ⟨p, hp, e⟩⟩
      obtain ⟨z', hz' | hz'⟩ := hVz
      · rw [e2, show St.eqv cP z = St.eqv cP z' from funext hz'.2, tZ.2 z' hz'.1, ← show St.eqv cP z = St.eqv cP z' from funext hz'.2, List.filter_filter, List.filter_filter]
        apply List.filter_congr
        intro x hx
        rw [eqv_P, eqv_R, Bool.eq_iff_iff]
        simp only [Bool.and_eq_true, decide_eq_true_eq, List.mem_append, List.mem_singleton]
        constructor
        · rintro ⟨h1, h2⟩; exact ⟨⟨by rw [hz, h2], h1⟩, .inr h2⟩
        · rintro ⟨⟨h1, h2⟩, h3⟩; exact ⟨h2, by rw [← h1, hz]⟩
      · have e3 : Z.filter (St.eqv cR z) = [] := by
          rw [List.filter_eq_nil_iff]
          intro x hx
          have hm : x ∈ ps := (List.mem_filter.1 (tZ.mem cP_ord (fun x hx => hv x (List.mem_filter.1 hx).1) vZ hx)).1
          rw [eqv_R]
          simp only [Bool.and_eq_true, decide_eq_true_eq, not_and]
          exact fun _ => hz' x hm
        rw [e3, eq_comm, List.filter_eq_nil_iff]
        intro x hx
        rw [eqv_R]
        simp only [Bool.and_eq_true, decide_eq_true_eq, not_and]
        exact fun _ => hz' x (List.mem_filter.1 hx).1
    · have e3 : Z.filter (St.eqv cR z) = [] := by
        rw [List.filter_eq_nil_iff]
        intro x hx
        rw [eqv_R]
        simp only [Bool.and_eq_true, decide_eq_true_eq, not_and]
        intro e
        exact absurd (e.trans (hzr x hx)) hz
      rw [e3, List.append_nil, List.filter_filter, List.filter_filter]
      apply List.filter_congr
      intro x hx
      rw [eqv_R, Bool.eq_iff_iff]
      simp only [Bool.and_eq_true, decide_eq_true_eq, List.mem_append, List.mem_singleton]
      constructor
      · rintro ⟨⟨h1, h2⟩, h3⟩; exact ⟨⟨h1, h2⟩, .inl h3⟩
      · rintro ⟨⟨h1, h2⟩, h3 | h3⟩
        · exact ⟨⟨h1, h2⟩, h3⟩
        · exact absurd (h1.trans h3) hz
  · intro p hp
    rcases List.mem_append.1 hp with hp | hp
    · exact List.mem_append_left _ (h.mem p hp)
    · rw [hzr p hp]; simp
/-- All reels gone through: the reference's list. -/
theorem Grp.all {ps : List Pl} {S : List ByteArray} {D Z : List Pl} (h : Grp ps S D) (hS : ∀ p ∈ ps, p.reel ∈ S) (hvD : St.VL Vp D) (sZ : St.Srt cR Z) (tZ : St.Stb cR Vp ps Z) (vZ : St.VL Vp Z) : D = Z := by
  have e : (ps.filter fun (p : Pl) => decide (p.reel ∈ S)) = ps := List.filter_eq_self.2 fun p hp => by simpa using hS p hp
  refine St.srt_uniq cR_ord hvD vZ h.srt sZ ⟨by rw [tZ.1, h.len, e], fun z hz => ?_⟩
  rw [tZ.2 z hz, h.stb z, e]

theorem snoc_ind {α : Type} {P : List α → Prop} (h0 : P []) (h1 : ∀ l a, P l → P (l ++ [a])) (l : List α) : P l := by
  have : ∀ n (l : List α), l.length = n → P l := by
    intro n
    induction n with
    | zero => intro l hl; rw [List.length_eq_zero_iff.1 hl]; exact h0
    | succ n ih =>
      intro l hl
      have hne : l ≠ [] := by rintro rfl; simp at hl
      rw [← List.dropLast_concat_getLast hne]
      exact h1 _ _ (ih _ (by rw [List.length_dropLast]; omega))
  exact this _ l rfl
/-- Merging. -/
def mStep (out : List Pl) (p : Pl) : List Pl := match out.getLast? with
  | none => [p]
  | some q => if q.reel = p.reel ∧ p.inn ≤ q.out then out.dropLast ++ [⟨q.reel, q.inn, max q.out p.out⟩] else out ++ [p]
def mList (ps : List Pl) : List Pl := ps.foldl mStep []
theorem mList_snoc (ps : List Pl) (p : Pl) : mList (ps ++ [p]) = mStep (mList ps) p := by unfold mList; rw [List.foldl_append]; rfl
theorem mStep_ne (out : List Pl) (p : Pl) : mStep out p ≠ [] := by
  unfold mStep
  split
  · simp
  · split <;> simp
theorem mStep_last (out : List Pl) (p : Pl) : ∃ q, (mStep out p).getLast? = some q ∧ q.reel = p.reel := by
  unfold mStep
  split
  · exact ⟨p, rfl, rfl⟩
  · split
    · rename_i q _ h
      exact ⟨⟨q.reel, q.inn, max q.out p.out⟩, List.getLast?_concat, h.1⟩
    · exact ⟨p, List.getLast?_concat, rfl⟩
theorem mList_len (ps : List Pl) : (mList ps).length ≤ ps.length := by
  induction ps using snoc_ind with
  | h0 => exact Nat.le_refl _
  | h1 ps p ih =>
    rw [mList_snoc, List.length_append, List.length_singleton]
    unfold mStep
    split
    · simp
    · rename_i q hq
      have hne : mList ps ≠ [] := fun h => by rw [h] at hq; simp at hq
      have := List.length_pos_iff.2 hne
      split
      · rw [List.length_append, List.length_dropLast]; simp; omega
      · rw [List.length_append]; simp; omega
/-- What a merged list covers. -/
def cov (L : List Pl) (r : ByteArray) (n : Int) : Prop := ∃ q ∈ L, q.reel = r ∧ q.inn ≤ n ∧ n < q.out
theorem cov_step {out : List Pl} {p : Pl} {r : ByteArray} {n : Int} (h : cov out r n) : cov (mStep out p) r n := by
  obtain ⟨q, hq, h1, h2, h3⟩ := h
  unfold mStep
  split
  · rename_i h0
    rw [List.getLast?_eq_none_iff] at h0
    rw [h0] at hq; cases hq
  · rename_i l hl
    split
    · have e : out = out.dropLast ++ [l] := by
        obtain ⟨ys, rfl⟩ := List.getLast?_eq_some_iff.1 hl
        rw [List.dropLast_concat]
      rw [e] at hq
      rcases List.mem_append.1 hq with hq | hq
      · exact ⟨q, List.mem_append_left _ hq, h1, h2, h3⟩
      · obtain rfl : q = l := by simpa using hq
        exact ⟨_, List.mem_append_right _ (List.mem_singleton.2 rfl), h1, h2, by show n < max q.out p.out; omega⟩
    · exact ⟨q, List.mem_append_left _ hq, h1, h2, h3⟩
theorem mList_cov (ps : List Pl) (hs : St.Srt cR ps) : (∀ p ∈ ps, ∀ n, p.inn ≤ n → n < p.out → cov (mList ps) p.reel n) ∧ ∀ q, (mList ps).getLast? = some q → ∃ p ∈ ps, q.reel = p.reel ∧ q.inn = p.inn := by
  induction ps using snoc_ind with
  | h0 =>
    refine ⟨fun p h => ?_, fun q h => ?_⟩
    · simp at h
    · simp [mList] at h
  | h1 ps p ih =>
    obtain ⟨s1, _, s3⟩ := St.Srt.app.1 hs
    obtain ⟨i1, i2⟩ := ih s1
    rw [mList_snoc]
    refine ⟨fun x hx n h1 h2 => ?_, fun q hq => ?_⟩
    · rcases List.mem_append.1 hx with hx | hx
      · exact cov_step (i1 x hx n h1 h2)
      · obtain rfl : x = p := by simpa using hx
        unfold mStep
        split
        · exact ⟨x, by simp, rfl, h1, h2⟩
        · rename_i l hl
          split
          · rename_i hc
            obtain ⟨p0, hp0, e1, e2⟩ := i2 l hl
            have hle := s3 p0 hp0 x (by simp)
            refine ⟨_, List.mem_append_right _ (List.mem_singleton.2 rfl), hc.1, ?_, ?_⟩
            · show l.inn ≤ n
              have : ¬ x.inn < p0.inn := fun h => hle (cR_neg.2 (.inr ⟨by rw [← e1, hc.1], h⟩))
              omega
            · show n < max l.out x.out
              omega
          · exact ⟨x, by simp, rfl, h1, h2⟩
    · unfold mStep at hq
      split at hq
      · obtain rfl : p = q := by simpa using hq
        exact ⟨p, by simp, rfl, rfl⟩
      · rename_i l hl
        split at hq
        · rw [List.getLast?_append] at hq
          simp at hq
          subst hq
          obtain ⟨p0, hp0, e1, e2⟩ := i2 l hl
          exact ⟨p0, List.mem_append_left _ hp0, e1, e2⟩
        · rw [List.getLast?_append] at hq
          simp at hq
          subst hq
          exact ⟨p, by simp, rfl, rfl⟩
end Go.Proofs.YteebkfdocdmboaaDoor
