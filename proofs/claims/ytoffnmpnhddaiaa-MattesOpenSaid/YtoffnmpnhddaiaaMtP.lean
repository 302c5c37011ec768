/- Shares of 1024 as single precision words: their order, and what turning makes of them; the greatest and the least of a list. -/
import Derived.Test.YtoffnmpnhddaiaaSum
namespace Go.Proofs.Ytoffnmpnhddaiaa
open Go.RowKit

theorem fres_is {op : BinOp} {x y r : Nat} (h : floatBits op .f32 x y = some r) (w : World) : fres op .f32 x y w = r := by simp [fres, h]
theorem fdr_is {op : BinOp} {x y r : Nat} (h : floatBits op .f32 x y = some r) : fdr op .f32 x y = 0 := by simp [fdr, h]
/-- The word of k / 1024. -/
def qW (k : Nat) : Nat := (floatBits .quo .f32 (floatOfInt .f32 (k : Int)) 1149239296).getD 0
def isQ (d : Ieee.Datum) (k : Nat) : Bool :=
  match d with
  | .number s m e => !s && decide (-149 ≤ e) && (m * 2 ^ (e + 149).toNat == k * 2 ^ 139)
  | _ => false
theorem isQ_number {s : Bool} {m k : Nat} {e : Int} (h : isQ (.number s m e) k = true) : s = false ∧ -149 ≤ e ∧ m * 2 ^ (e + 149).toNat = k * 2 ^ 139 := by
  simp only [isQ, Bool.and_eq_true, Bool.not_eq_true', decide_eq_true_eq, beq_iff_eq] at h
  exact ⟨h.1.1, h.1.2, h.2⟩
theorem qW_all : ∀ k : Fin 1025, floatBits .quo .f32 (floatOfInt .f32 (k.val : Int)) 1149239296 = some (qW k.val) ∧ canon (qW k.val) = qW k.val ∧ floatBits .sub .f32 1065353216 (qW k.val) = some (qW (1024 - k.val)) ∧
    isQ (FloatKind.f32.format.read (qW k.val)) k.val = true := by decide +kernel
theorem qW_quo (k : Nat) (h : k ≤ 1024) : floatBits .quo .f32 (floatOfInt .f32 (k : Int)) 1149239296 = some (qW k) := (qW_all ⟨k, by omega⟩).1
theorem qW_canon (k : Nat) (h : k ≤ 1024) : canon (qW k) = qW k := (qW_all ⟨k, by omega⟩).2.1
theorem qW_turn (k : Nat) (h : k ≤ 1024) : floatBits .sub .f32 1065353216 (qW k) = some (qW (1024 - k)) := (qW_all ⟨k, by omega⟩).2.2.1

theorem signed_pos (m n : Nat) : Ieee.signed false m n = ((m * 2 ^ n : Nat) : Int) := by
  simp [Ieee.signed, Nat.shiftLeft_eq]
theorem cmp_scale (a b c : Nat) (hc : 0 < c) : compare ((a : Nat) : Int) ((b : Nat) : Int) = compare (a * c) (b * c) := by
  rw [Nat.compare_eq_ite_lt, Int.compare_eq_ite_lt]
  have h1 : (a * c < b * c) ↔ a < b := Nat.mul_lt_mul_right hc
  have h2 : (b * c < a * c) ↔ b < a := Nat.mul_lt_mul_right hc
  simp only [h1, h2, Int.ofNat_lt]
theorem qW_order (a b : Nat) (ha : a ≤ 1024) (hb : b ≤ 1024) : FloatKind.f32.format.order (qW a) (qW b) = some (compare a b) := by
  have h1 := (qW_all ⟨a, by omega⟩).2.2.2
  have h2 := (qW_all ⟨b, by omega⟩).2.2.2
  simp only at h1 h2
  unfold Ieee.Format.order
  cases hx : FloatKind.f32.format.read (qW a) with
  | nan => rw [hx] at h1; cases h1
  | infinity => rw [hx] at h1; cases h1
  | number s m i =>
    cases hy : FloatKind.f32.format.read (qW b) with
    | nan => rw [hy] at h2; cases h2
    | infinity => rw [hy] at h2; cases h2
    | number t n j =>
      rw [hx] at h1
      rw [hy] at h2
      obtain ⟨rfl, hi, e1⟩ := isQ_number h1
      obtain ⟨rfl, hj, e2⟩ := isQ_number h2
      show some (compare (Ieee.signed false m (i - min i j).toNat) (Ieee.signed false n (j - min i j).toNat)) = _
      rw [signed_pos, signed_pos, cmp_scale _ _ (2 ^ (min i j + 149).toNat) (Nat.two_pow_pos _), Nat.mul_assoc, Nat.mul_assoc, ← Nat.pow_add, ← Nat.pow_add]
      rw [show (i - min i j).toNat + (min i j + 149).toNat = (i + 149).toNat by omega, show (j - min i j).toNat + (min i j + 149).toNat = (j + 149).toNat by omega, e1, e2]
      have := cmp_scale a b (2 ^ 139) (Nat.two_pow_pos _)
      rw [← this, Nat.compare_eq_ite_lt, Int.compare_eq_ite_lt]
      simp only [Int.ofNat_lt]

/-- The greatest, the least of a list. -/
def maxL (zs : List Nat) : Nat := zs.foldl max (zs.headD 0)
def minL (zs : List Nat) : Nat := zs.foldl min (zs.headD 0)
theorem foldmax_spec (zs : List Nat) : ∀ a, (zs.foldl max a = a ∨ zs.foldl max a ∈ zs) ∧ a ≤ zs.foldl max a ∧ ∀ z ∈ zs, z ≤ zs.foldl max a := by
  induction zs with
  | nil => intro a; exact ⟨.inl rfl, Nat.le_refl _, fun z hz => by cases hz⟩
  | cons x zs ih =>
    intro a
    obtain ⟨h1, h2, h3⟩ := ih (max a x)
    rw [List.foldl_cons]
    refine ⟨?_, by omega, ?_⟩
    · rcases h1 with h1 | h1
      · rcases (by omega : max a x = a ∨ max a x = x) with h | h
        · exact .inl (h1.trans h)
        · rw [h1, h]; exact .inr (by simp)
      · exact .inr (List.mem_cons_of_mem _ h1)
    · intro z hz
      rcases List.mem_cons.1 hz with rfl | hz
      · omega
      · exact h3 z hz
theorem foldmin_spec (zs : List Nat) : ∀ a, (zs.foldl min a = a ∨ zs.foldl min a ∈ zs) ∧ zs.foldl min a ≤ a ∧ ∀ z ∈ zs, zs.foldl min a ≤ z := by
  induction zs with
  | nil => intro a; exact ⟨.inl rfl, Nat.le_refl _, fun z hz => by cases hz⟩
  | cons x zs ih =>
    intro a
    obtain ⟨h1, h2, h3⟩ := ih (min a x)
    rw [List.foldl_cons]
    refine ⟨?_, by omega, ?_⟩
    · rcases h1 with h1 | h1
      · rcases (by omega : min a x = a ∨ min a x = x) with h | h
        · exact .inl (h1.trans h)
        · rw [h1, h]; exact .inr (by simp)
      · exact .inr (List.mem_cons_of_mem _ h1)
    · intro z hz
      rcases List.mem_cons.1 hz with rfl | hz
      · omega
      · exact h3 z hz
theorem maxL_spec (zs : List Nat) (h : zs ≠ []) : maxL zs ∈ zs ∧ ∀ z ∈ zs, z ≤ maxL zs := by
  cases zs with
  | nil => exact absurd rfl h
  | cons x zs =>
    obtain ⟨h1, h2, h3⟩ := foldmax_spec (x :: zs) x
    refine ⟨?_, h3⟩
    show (x :: zs).foldl max x ∈ _
    rcases h1 with h1 | h1
    · rw [h1]; simp
    · exact h1
theorem minL_spec (zs : List Nat) (h : zs ≠ []) : minL zs ∈ zs ∧ ∀ z ∈ zs, minL zs ≤ z := by
  cases zs with
  | nil => exact absurd rfl h
  | cons x zs =>
    obtain ⟨h1, h2, h3⟩ := foldmin_spec (x :: zs) x
    refine ⟨?_, h3⟩
    show (x :: zs).foldl min x ∈ _
    rcases h1 with h1 | h1
    · rw [h1]; simp
    · exact h1

/-- The values in the square of side s at x, y. -/
def win (s : Nat) (A : Nat → Nat → Nat) (x y : Nat) : List Nat := (List.range (s * s)).map fun n => A (x + n % s) (y + n / s)
theorem win_mem (s : Nat) (A : Nat → Nat → Nat) (x y z : Nat) (hs : 0 < s) : z ∈ win s A x y ↔ ∃ i j, i < s ∧ j < s ∧ z = A (x + i) (y + j) := by
  unfold win
  simp only [List.mem_map, List.mem_range]
  constructor
  · rintro ⟨n, hn, rfl⟩
    exact ⟨n % s, n / s, Nat.mod_lt _ hs, (Nat.div_lt_iff_lt_mul hs).2 hn, rfl⟩
  · rintro ⟨i, j, hi, hj, rfl⟩
    refine ⟨j * s + i, ?_, ?_⟩
    · calc j * s + i < j * s + s := by omega
        _ = (j + 1) * s := by rw [Nat.succ_mul]
        _ ≤ s * s := Nat.mul_le_mul_right s hj
    · rw [Nat.add_comm (j * s) i, Nat.add_mul_mod_self_right, Nat.mod_eq_of_lt hi, Nat.add_mul_div_right _ _ hs, Nat.div_eq_of_lt hi, Nat.zero_add]
theorem win_ne (s : Nat) (A : Nat → Nat → Nat) (x y : Nat) (hs : 0 < s) : win s A x y ≠ [] := by
  intro h
  have : A (x + 0) (y + 0) ∈ win s A x y := (win_mem s A x y _ hs).2 ⟨0, 0, hs, hs, rfl⟩
  rw [h] at this
  cases this

def dil (s : Nat) (A : Nat → Nat → Nat) (x y : Nat) : Nat := maxL (win s A x y)
def ero (s : Nat) (A : Nat → Nat → Nat) (x y : Nat) : Nat := minL (win s A x y)
theorem dil_spec (s : Nat) (A : Nat → Nat → Nat) (x y : Nat) (hs : 0 < s) : (∃ i j, i < s ∧ j < s ∧ dil s A x y = A (x + i) (y + j)) ∧ ∀ i j, i < s → j < s → A (x + i) (y + j) ≤ dil s A x y := by
  obtain ⟨h1, h2⟩ := maxL_spec _ (win_ne s A x y hs)
  exact ⟨(win_mem s A x y _ hs).1 h1, fun i j hi hj => h2 _ ((win_mem s A x y _ hs).2 ⟨i, j, hi, hj, rfl⟩)⟩
theorem ero_spec (s : Nat) (A : Nat → Nat → Nat) (x y : Nat) (hs : 0 < s) : (∃ i j, i < s ∧ j < s ∧ ero s A x y = A (x + i) (y + j)) ∧ ∀ i j, i < s → j < s → ero s A x y ≤ A (x + i) (y + j) := by
  obtain ⟨h1, h2⟩ := minL_spec _ (win_ne s A x y hs)
  exact ⟨(win_mem s A x y _ hs).1 h1, fun i j hi hj => h2 _ ((win_mem s A x y _ hs).2 ⟨i, j, hi, hj, rfl⟩)⟩

/-- What is left, turned, is spread. -/
theorem ero_turn (s : Nat) (A : Nat → Nat → Nat) (x y : Nat) (hs : 0 < s) (hA : ∀ x y, A x y ≤ 1024) : ero s A x y = 1024 - dil s (fun x y => 1024 - A x y) x y := by
  obtain ⟨⟨i, j, hi, hj, e1⟩, h1⟩ := ero_spec s A x y hs
  obtain ⟨⟨i', j', hi', hj', e2⟩, h2⟩ := dil_spec s (fun x y => 1024 - A x y) x y hs
  have g1 := h1 i' j' hi' hj'
  have g2 := h2 i j hi hj
  have b1 := hA (x + i) (y + j)
  have b2 := hA (x + i') (y + j')
  try simp only at e2 g2
  omega
/-- Opened is nowhere greater. -/
theorem open_le (r : Nat) (A : Nat → Nat → Nat) (x y : Nat) : dil (2 * r + 1) (ero (2 * r + 1) A) x y ≤ A (x + 2 * r) (y + 2 * r) := by
  obtain ⟨⟨i, j, hi, hj, e1⟩, _⟩ := dil_spec (2 * r + 1) (ero (2 * r + 1) A) x y (by omega)
  obtain ⟨_, h2⟩ := ero_spec (2 * r + 1) A (x + i) (y + j) (by omega)
  have := h2 (2 * r - i) (2 * r - j) (by omega) (by omega)
  rw [show x + i + (2 * r - i) = x + 2 * r by omega, show y + j + (2 * r - j) = y + 2 * r by omega] at this
  omega
/-- Opening twice is opening once. -/
theorem open_twice (r : Nat) (A : Nat → Nat → Nat) (x y : Nat) :
    dil (2 * r + 1) (ero (2 * r + 1) (dil (2 * r + 1) (ero (2 * r + 1) A))) x y = dil (2 * r + 1) (ero (2 * r + 1) A) (x + 2 * r) (y + 2 * r) := by
  refine Nat.le_antisymm (open_le r (dil (2 * r + 1) (ero (2 * r + 1) A)) x y) ?_
  generalize hE : ero (2 * r + 1) A = E
  obtain ⟨⟨i, j, hi, hj, e1⟩, _⟩ := dil_spec (2 * r + 1) E (x + 2 * r) (y + 2 * r) (by omega)
  obtain ⟨_, h2⟩ := dil_spec (2 * r + 1) (ero (2 * r + 1) (dil (2 * r + 1) E)) x y (by omega)
  have g := h2 i j hi hj
  obtain ⟨⟨i', j', hi', hj', e3⟩, _⟩ := ero_spec (2 * r + 1) (dil (2 * r + 1) E) (x + i) (y + j) (by omega)
  obtain ⟨_, h4⟩ := dil_spec (2 * r + 1) E (x + i + i') (y + j + j') (by omega)
  have g2 := h4 (2 * r - i') (2 * r - j') (by omega) (by omega)
  rw [show x + i + i' + (2 * r - i') = x + 2 * r + i by omega, show y + j + j' + (2 * r - j') = y + 2 * r + j by omega] at g2
  omega
theorem dil_bd (s : Nat) (A : Nat → Nat → Nat) (hs : 0 < s) (hA : ∀ x y, A x y ≤ 1024) (x y : Nat) : dil s A x y ≤ 1024 := by
  obtain ⟨⟨i, j, _, _, e⟩, _⟩ := dil_spec s A x y hs
  rw [e]; exact hA _ _
theorem ero_bd (s : Nat) (A : Nat → Nat → Nat) (hs : 0 < s) (hA : ∀ x y, A x y ≤ 1024) (x y : Nat) : ero s A x y ≤ 1024 := by
  obtain ⟨⟨i, j, _, _, e⟩, _⟩ := ero_spec s A x y hs
  rw [e]; exact hA _ _
end Go.Proofs.Ytoffnmpnhddaiaa
