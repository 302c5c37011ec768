/- Stable sorting, plain: what blocks, rotations and merges do to a list. No program in sight. -/
import Derived.Test.YteebkfdocdmboaaDoorFl
namespace Go.Proofs.YteebkfdocdmboaaDoor
namespace St
variable {α : Type}

/-- A comparison that orders: 'less' is asymmetric, 'not greater' is transitive. -/
structure Ord (c : α → α → Int) (V : α → Prop) : Prop where
  asym : ∀ x y, V x → V y → c x y < 0 → ¬ c y x < 0
  trans : ∀ x y z, V x → V y → V z → ¬ c y x < 0 → ¬ c z y < 0 → ¬ c z x < 0

def le (c : α → α → Int) (x y : α) : Prop := ¬ c y x < 0
def lt (c : α → α → Int) (x y : α) : Prop := c x y < 0
/-- Of one class. -/
def eqv (c : α → α → Int) (x y : α) : Bool := decide (¬ c x y < 0 ∧ ¬ c y x < 0)
def VL (V : α → Prop) (l : List α) : Prop := ∀ x ∈ l, V x
def Srt (c : α → α → Int) (l : List α) : Prop := l.Pairwise (le c)
/-- The same elements, those of one class in the same order. -/
def Stb (c : α → α → Int) (V : α → Prop) (l l' : List α) : Prop := l'.length = l.length ∧ ∀ z, V z → l'.filter (eqv c z) = l.filter (eqv c z)

section
variable {c : α → α → Int} {V : α → Prop}
theorem VL.app {l m : List α} : VL V (l ++ m) ↔ VL V l ∧ VL V m := by
  unfold VL
  constructor
  · intro h; exact ⟨fun x hx => h x (List.mem_append_left _ hx), fun x hx => h x (List.mem_append_right _ hx)⟩
  · rintro ⟨h1, h2⟩ x hx
    rcases List.mem_append.1 hx with h | h
    · exact h1 x h
    · exact h2 x h
theorem VL.cons {x : α} {m : List α} : VL V (x :: m) ↔ V x ∧ VL V m := by
  unfold VL; simp
theorem Ord.irr (h : Ord c V) {x : α} (hx : V x) : ¬ c x x < 0 := fun h1 => h.asym x x hx hx h1 h1
theorem Ord.self (h : Ord c V) {x : α} (hx : V x) : eqv c x x = true := by
  unfold eqv; exact decide_eq_true ⟨h.irr hx, h.irr hx⟩
theorem Stb.refl (l : List α) : Stb c V l l := ⟨rfl, fun _ _ => rfl⟩
theorem Stb.trans {l m n : List α} (h1 : Stb c V l m) (h2 : Stb c V m n) : Stb c V l n := ⟨h2.1.trans h1.1, fun z hz => (h2.2 z hz).trans (h1.2 z hz)⟩
theorem Stb.app {l l' m m' : List α} (h1 : Stb c V l l') (h2 : Stb c V m m') : Stb c V (l ++ m) (l' ++ m') :=
  ⟨by rw [List.length_append, List.length_append, h1.1, h2.1], fun z hz => by rw [List.filter_append, List.filter_append, h1.2 z hz, h2.2 z hz]⟩
theorem Stb.mem (o : Ord c V) {l l' : List α} (h : Stb c V l l') (_hv : VL V l) (hv' : VL V l') {x : α} (hx : x ∈ l') : x ∈ l := by
  have h1 : x ∈ l'.filter (eqv c x) := List.mem_filter.2 ⟨hx, o.self (hv' x hx)⟩
  rw [h.2 x (hv' x hx)] at h1
  exact (List.mem_filter.1 h1).1
/-- Blocks X, Y of which each of Y is less than each of X turn places. -/
theorem Stb.rot (o : Ord c V) {X Y : List α} (hX : VL V X) (hY : VL V Y) (h : ∀ x ∈ X, ∀ y ∈ Y, lt c y x) : Stb c V (X ++ Y) (Y ++ X) := by
  refine ⟨by rw [List.length_append, List.length_append, Nat.add_comm], fun z hz => ?_⟩
  rw [List.filter_append, List.filter_append]
  by_cases hx : X.filter (eqv c z) = []
  · rw [hx, List.append_nil, List.nil_append]
  · have hy : Y.filter (eqv c z) = [] := by
      rw [List.filter_eq_nil_iff]
      intro y hy hyz
      obtain ⟨x, hxm⟩ := List.exists_mem_of_ne_nil _ hx
      obtain ⟨hxX, hxz⟩ := List.mem_filter.1 hxm
      have h1 : ¬ c z x < 0 ∧ ¬ c x z < 0 := by simpa [eqv] using hxz
      have h2 : ¬ c z y < 0 ∧ ¬ c y z < 0 := by simpa [eqv] using hyz
      exact o.trans x z y (hX x hxX) hz (hY y hy) h1.1 h2.2 (h x hxX y hy)
    rw [hy, List.append_nil, List.nil_append]
theorem Srt.app {l m : List α} : Srt c (l ++ m) ↔ Srt c l ∧ Srt c m ∧ ∀ x ∈ l, ∀ y ∈ m, le c x y := List.pairwise_append
theorem lt_le (o : Ord c V) {x y : α} (hx : V x) (hy : V y) (h : lt c x y) : le c x y := o.asym x y hx hy h
theorem le_trans (o : Ord c V) {x y z : α} (hx : V x) (hy : V y) (hz : V z) (h1 : le c x y) (h2 : le c y z) : le c x z := o.trans x y z hx hy hz h1 h2
theorem lt_of_lt_le (o : Ord c V) {x y z : α} (hx : V x) (hy : V y) (hz : V z) (h1 : lt c x y) (h2 : le c y z) : lt c x z := by
  show c x z < 0
  apply Decidable.byContradiction
  intro h3
  exact o.trans y z x hy hz hx h2 h3 h1
theorem lt_of_le_lt (o : Ord c V) {x y z : α} (hx : V x) (hy : V y) (hz : V z) (h1 : le c x y) (h2 : lt c y z) : lt c x z := by
  show c x z < 0
  apply Decidable.byContradiction
  intro h3
  exact o.trans z x y hz hx hy h3 h1 h2
/-- In a sorted list an earlier element is not greater. -/
theorem Srt.at (o : Ord c V) {l : List α} (hv : VL V l) (h : Srt c l) {i j : Nat} {x y : α} (hi : l[i]? = some x) (hj : l[j]? = some y) (hij : i ≤ j) : le c x y := by
  obtain ⟨h1, rfl⟩ := List.getElem?_eq_some_iff.1 hi
  obtain ⟨h2, rfl⟩ := List.getElem?_eq_some_iff.1 hj
  rcases Nat.lt_or_ge i j with h3 | h3
  · exact List.pairwise_iff_getElem.1 h i j h1 h2 h3
  · obtain rfl : i = j := by omega
    exact o.irr (hv _ (List.getElem_mem h1))
/-- TWO SORTED LISTS WITH THE SAME CLASSES ARE THE SAME. -/
theorem srt_uniq (o : Ord c V) : ∀ {l m : List α}, VL V l → VL V m → Srt c l → Srt c m → Stb c V l m → l = m
  | [], m, _, _, _, _, h => by have := h.1; exact (List.length_eq_zero_iff.1 this).symm
  | x :: l, [], _, _, _, _, h => by have := h.1; simp at this
  | x :: l, y :: m, hl, hm, sl, sm, h => by
    obtain ⟨hx, hl'⟩ := VL.cons.1 hl
    obtain ⟨hy, hm'⟩ := VL.cons.1 hm
    have sl2 := List.pairwise_cons.1 sl
    have sm2 := List.pairwise_cons.1 sm
    have hy2 : y ∈ x :: l := h.mem o hl hm (List.mem_cons_self)
    have hx2 : x ∈ y :: m := by
      have h1 : x ∈ (x :: l).filter (eqv c x) := List.mem_filter.2 ⟨List.mem_cons_self, o.self hx⟩
      rw [← h.2 x hx] at h1
      exact (List.mem_filter.1 h1).1
    have lxy : le c x y := by
      rcases List.mem_cons.1 hy2 with rfl | h1
      · exact o.irr hx
      · exact sl2.1 y h1
    have lyx : le c y x := by
      rcases List.mem_cons.1 hx2 with rfl | h1
      · exact o.irr hx
      · exact sm2.1 x h1
    have e1 : eqv c x y = true := by unfold eqv; exact decide_eq_true ⟨lyx, lxy⟩
    have h1 := h.2 x hx
    rw [List.filter_cons_of_pos e1, List.filter_cons_of_pos (o.self hx)] at h1
    obtain rfl : y = x := (List.cons.inj h1).1
    refine congrArg _ (srt_uniq o hl' hm' sl2.2 sm2.2 ⟨by have := h.1; simpa using this, fun z hz => ?_⟩)
    have h2 := h.2 z hz
    by_cases hz2 : eqv c z y = true
    · rw [List.filter_cons_of_pos hz2, List.filter_cons_of_pos hz2] at h2
      exact (List.cons.inj h2).2
    · rw [List.filter_cons_of_neg hz2, List.filter_cons_of_neg hz2] at h2
      exact h2

/-- Sorted block by block. -/
inductive Blk (c : α → α → Int) (k : Nat) : List α → Prop
  | last {l : List α} : l.length ≤ k → Srt c l → Blk c k l
  | cons {X R : List α} : X.length = k → Srt c X → Blk c k R → Blk c k (X ++ R)
/-- Whole blocks, all sorted. -/
def Full (c : α → α → Int) (k : Nat) (D : List α) : Prop := ∀ R, Blk c k R → Blk c k (D ++ R)
theorem Full.nil (k : Nat) : Full c k [] := fun _ h => h
theorem Full.snoc {k : Nat} {D X : List α} (h : Full c k D) (hX : X.length = k) (hs : Srt c X) : Full c k (D ++ X) := fun R hR => by
  rw [List.append_assoc]
  exact h _ (.cons hX hs hR)
theorem Blk.first {k : Nat} {l : List α} (h : Blk c k l) (hk : l.length ≤ k) : Srt c l := by
  cases h with
  | last _ h2 => exact h2
  | @cons X R h1 h2 h3 =>
    have : R = [] := by
      rw [List.length_append] at hk
      exact List.length_eq_zero_iff.1 (by omega)
    subst this
    simpa using h2
/-- Two blocks of what is left. -/
theorem Blk.two {k : Nat} (hk : 0 < k) {l : List α} (h : Blk c k l) (hl : 2 * k ≤ l.length) : ∃ X Y R, l = X ++ Y ++ R ∧ X.length = k ∧ Y.length = k ∧ Srt c X ∧ Srt c Y ∧ Blk c k R := by
  cases h with
  | last h1 _ => omega
  | @cons X R h1 h2 h3 =>
    cases h3 with
    | @last R h4 h5 =>
      rw [List.length_append] at hl
      refine ⟨X, R, [], by simp, h1, by omega, h2, h5, .last (by simp) List.Pairwise.nil⟩
    | @cons Y R h4 h5 h6 => exact ⟨X, Y, R, by rw [List.append_assoc], h1, h4, h2, h5, h6⟩
/-- A block and a piece. -/
theorem Blk.rest {k : Nat} {l : List α} (h : Blk c k l) (h1 : k < l.length) (h2 : l.length < 2 * k) : ∃ X Y, l = X ++ Y ∧ X.length = k ∧ Srt c X ∧ Srt c Y := by
  cases h with
  | last h3 _ => omega
  | @cons X R h3 h4 h5 =>
    rw [List.length_append] at h2
    exact ⟨X, R, rfl, h3, h4, h5.first (by omega)⟩

/-- The point that the search of a merge finds: the parts turn, both halves are apart. -/
theorem halves (o : Ord c V) {X1 X2 Y1 Y2 : List α} (hX : VL V (X1 ++ X2)) (hY : VL V (Y1 ++ Y2)) (sX : Srt c (X1 ++ X2)) (sY : Srt c (Y1 ++ Y2)) (h1 : ∀ x, X1.getLast? = some x → ∀ y, Y2.head? = some y → le c x y) (h2 : ∀ y, Y1.getLast? = some y → ∀ x, X2.head? = some x → lt c y x) :
    (∀ x ∈ X1, ∀ y ∈ Y2, le c x y) ∧ (∀ x ∈ X2, ∀ y ∈ Y1, lt c y x) := by
  obtain ⟨vX1, vX2⟩ := VL.app.1 hX
  obtain ⟨vY1, vY2⟩ := VL.app.1 hY
  obtain ⟨sX1, sX2, sX12⟩ := Srt.app.1 sX
  obtain ⟨sY1, sY2, sY12⟩ := Srt.app.1 sY
  have lastof : ∀ {l : List α}, VL V l → Srt c l → ∀ x ∈ l, ∃ z, l.getLast? = some z ∧ z ∈ l ∧ le c x z := by
    intro l hv hs x hx
    have hne : l ≠ [] := by rintro rfl; cases hx
    refine ⟨l.getLast hne, List.getLast?_eq_some_getLast hne, List.getLast_mem hne, ?_⟩
    obtain ⟨i, hi, rfl⟩ := List.mem_iff_getElem.1 hx
    refine hs.at o hv (List.getElem?_eq_getElem hi) (j := l.length - 1) ?_ (by omega)
    rw [List.getLast_eq_getElem, List.getElem?_eq_getElem (by omega)]
  have headof : ∀ {l : List α}, VL V l → Srt c l → ∀ x ∈ l, ∃ z, l.head? = some z ∧ z ∈ l ∧ le c z x := by
    intro l hv hs x hx
    obtain ⟨i, hi, rfl⟩ := List.mem_iff_getElem.1 hx
    refine ⟨l[0]'(by omega), by rw [List.head?_eq_getElem?, List.getElem?_eq_getElem (by omega)], List.getElem_mem _, ?_⟩
    exact hs.at o hv (List.getElem?_eq_getElem (by omega)) (List.getElem?_eq_getElem hi) (Nat.zero_le _)
  constructor
  · intro x hx y hy
    obtain ⟨a, ha, ham, hxa⟩ := lastof vX1 sX1 x hx
    obtain ⟨b, hb, hbm, hby⟩ := headof vY2 sY2 y hy
    exact le_trans o (vX1 x hx) (vY2 b hbm) (vY2 y hy) (le_trans o (vX1 x hx) (vX1 a ham) (vY2 b hbm) hxa (h1 a ha b hb)) hby
  · intro x hx y hy
    obtain ⟨a, ha, ham, hya⟩ := lastof vY1 sY1 y hy
    obtain ⟨b, hb, hbm, hbx⟩ := headof vX2 sX2 x hx
    exact lt_of_lt_le o (vY1 y hy) (vX2 b hbm) (vX2 x hx) (lt_of_le_lt o (vY1 y hy) (vY1 a ham) (vX2 b hbm) hya (h2 a ha b hb)) hbx
/-- Both halves merged: the whole is. -/
theorem merged (o : Ord c V) {X1 X2 Y1 Y2 Z1 Z2 : List α} (hX : VL V (X1 ++ X2)) (hY : VL V (Y1 ++ Y2)) (hZ1 : VL V Z1) (hZ2 : VL V Z2) (sX : Srt c (X1 ++ X2)) (sY : Srt c (Y1 ++ Y2)) (h1 : ∀ x ∈ X1, ∀ y ∈ Y2, le c x y) (h2 : ∀ x ∈ X2, ∀ y ∈ Y1, lt c y x)
    (s1 : Srt c Z1) (s2 : Srt c Z2) (t1 : Stb c V (X1 ++ Y1) Z1) (t2 : Stb c V (X2 ++ Y2) Z2) : Srt c (Z1 ++ Z2) ∧ Stb c V ((X1 ++ X2) ++ (Y1 ++ Y2)) (Z1 ++ Z2) := by
  obtain ⟨vX1, vX2⟩ := VL.app.1 hX
  obtain ⟨vY1, vY2⟩ := VL.app.1 hY
  obtain ⟨sX1, sX2, sX12⟩ := Srt.app.1 sX
  obtain ⟨sY1, sY2, sY12⟩ := Srt.app.1 sY
  refine ⟨Srt.app.2 ⟨s1, s2, fun x hx y hy => ?_⟩, ?_⟩
  · have hx' := t1.mem o (VL.app.2 ⟨vX1, vY1⟩) hZ1 hx
    have hy' := t2.mem o (VL.app.2 ⟨vX2, vY2⟩) hZ2 hy
    rcases List.mem_append.1 hx' with ha | ha
    · rcases List.mem_append.1 hy' with hb | hb
      · exact sX12 x ha y hb
      · exact h1 x ha y hb
    · rcases List.mem_append.1 hy' with hb | hb
      · exact lt_le o (vY1 x ha) (vX2 y hb) (h2 y hb x ha)
      · exact sY12 x ha y hb
  · have t3 : Stb c V (X1 ++ X2 ++ (Y1 ++ Y2)) (X1 ++ Y1 ++ (X2 ++ Y2)) := by
      have := (Stb.refl (c := c) (V := V) X1).app ((Stb.rot o vX2 vY1 h2).app (Stb.refl Y2))
      simpa [List.append_assoc] using this
    exact t3.trans (t1.app t2)
/-- x into a sorted list: behind S1, ahead of S2. -/
theorem insert_at (o : Ord c V) {S1 S2 : List α} {x : α} (hS : VL V (S1 ++ S2)) (hx : V x) (s : Srt c (S1 ++ S2)) (h1 : ∀ y ∈ S1, le c y x) (h2 : ∀ y ∈ S2, lt c x y) : Srt c (S1 ++ x :: S2) ∧ Stb c V (S1 ++ S2 ++ [x]) (S1 ++ x :: S2) := by
  obtain ⟨v1, v2⟩ := VL.app.1 hS
  obtain ⟨s1, s2, s12⟩ := Srt.app.1 s
  refine ⟨Srt.app.2 ⟨s1, List.pairwise_cons.2 ⟨fun y hy => lt_le o hx (v2 y hy) (h2 y hy), s2⟩, fun y hy z hz => ?_⟩, ?_⟩
  · rcases List.mem_cons.1 hz with rfl | hz
    · exact h1 y hy
    · exact s12 y hy z hz
  · have := (Stb.refl (c := c) (V := V) S1).app (Stb.rot o (Y := [x]) v2 (VL.cons.2 ⟨hx, fun y hy => by cases hy⟩) (fun y hy z hz => by
      have : z = x := by simpa using hz
      subst this
      exact h2 y hy))
    simpa [List.append_assoc] using this
/-- x, which stands ahead, into a sorted list: behind those that are less. -/
theorem insert_left (o : Ord c V) {S1 S2 : List α} {x : α} (hS : VL V (S1 ++ S2)) (hx : V x) (s : Srt c (S1 ++ S2)) (h1 : ∀ y ∈ S1, lt c y x) (h2 : ∀ y ∈ S2, le c x y) : Srt c (S1 ++ x :: S2) ∧ Stb c V (x :: (S1 ++ S2)) (S1 ++ x :: S2) := by
  obtain ⟨v1, v2⟩ := VL.app.1 hS
  obtain ⟨s1, s2, s12⟩ := Srt.app.1 s
  refine ⟨Srt.app.2 ⟨s1, List.pairwise_cons.2 ⟨fun y hy => h2 y hy, s2⟩, fun y hy z hz => ?_⟩, ?_⟩
  · rcases List.mem_cons.1 hz with rfl | hz
    · exact lt_le o (v1 y hy) hx (h1 y hy)
    · exact s12 y hy z hz
  · have := (Stb.rot o (X := [x]) (Y := S1) (VL.cons.2 ⟨hx, fun y hy => by cases hy⟩) v1 (fun y hy z hz => by
      have : y = x := by simpa using hy
      subst this
      exact h1 z hz)).app (Stb.refl (c := c) (V := V) S2)
    simpa [List.append_assoc] using this
end

/-- Setting behind a prefix. -/
theorem set_mid (A R : List α) (x y : α) : (A ++ x :: R).set A.length y = A ++ y :: R := by
  rw [List.set_append_right _ _ (Nat.le_refl _), Nat.sub_self]; rfl
theorem get_mid (A R : List α) (x : α) : (A ++ x :: R)[A.length]? = some x := by
  rw [List.getElem?_append_right (Nat.le_refl _), Nat.sub_self]; rfl
theorem set_at {A R : List α} {x y : α} {i : Nat} (hi : i = A.length) : (A ++ x :: R).set i y = A ++ y :: R := by subst hi; exact set_mid A R x y
theorem get_at {A R : List α} {x : α} {i : Nat} (hi : i = A.length) : (A ++ x :: R)[i]? = some x := by subst hi; exact get_mid A R x
theorem split_at {l : List α} {k : Nat} (h : k ≤ l.length) : ∃ P Q, l = P ++ Q ∧ P.length = k := ⟨l.take k, l.drop k, (List.take_append_drop k l).symm, by rw [List.length_take]; omega⟩
theorem split_one {l : List α} (h : 0 < l.length) : ∃ x Q, l = x :: Q := by
  cases l with
  | nil => cases h
  | cons x Q => exact ⟨x, Q, rfl⟩
theorem split_last {l : List α} (h : 0 < l.length) : ∃ Q x, l = Q ++ [x] := ⟨l.dropLast, l.getLast (by rintro rfl; cases h), (List.dropLast_concat_getLast _).symm⟩
end St
end Go.Proofs.YteebkfdocdmboaaDoor
