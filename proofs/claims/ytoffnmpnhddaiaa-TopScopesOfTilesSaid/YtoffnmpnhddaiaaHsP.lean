/- The counts of the tiles, together, are those of the whole. No walk in sight. -/
import Derived.Test.YtoffnmpnhddaiaaHsD
import Derived.Test.YtoffnmpnhddaiaaTilT
import Derived.Test.YtoffnmpnhddaiaaCutG
namespace Go.Proofs.Ytoffnmpnhddaiaa
open Go.RowKit

def nsum (f : Nat → Nat) : Nat → Nat
  | 0 => 0
  | n + 1 => nsum f n + f n
theorem nsum_congr {f g : Nat → Nat} : ∀ n, (∀ k, k < n → f k = g k) → nsum f n = nsum g n
  | 0, _ => rfl
  | n + 1, h => by rw [nsum, nsum, nsum_congr n (fun k hk => h k (by omega)), h n (by omega)]
theorem nsum_add (f : Nat → Nat) (a b : Nat) : nsum f (a + b) = nsum f a + nsum (fun s => f (a + s)) b := by
  induction b with
  | zero => rfl
  | succ b ih => rw [← Nat.add_assoc, nsum, ih, nsum]; omega
theorem nsum_plus (f g : Nat → Nat) (n : Nat) : nsum (fun k => f k + g k) n = nsum f n + nsum g n := by
  induction n with
  | zero => rfl
  | succ n ih => rw [nsum, nsum, nsum, ih]; omega
theorem nsum_nil (n : Nat) : nsum (fun _ => 0) n = 0 := by
  induction n with
  | zero => rfl
  | succ n ih => rw [nsum, ih]
theorem nsum_swap (f : Nat → Nat → Nat) (m n : Nat) : nsum (fun i => nsum (fun r => f i r) n) m = nsum (fun r => nsum (fun i => f i r) m) n := by
  induction m with
  | zero => simp only [nsum]; rw [nsum_nil]
  | succ m ih =>
    simp only [nsum]
    rw [ih, ← nsum_plus]
theorem nsum_mul (f : Nat → Nat) (w : Nat) (h : Nat) : nsum f (h * w) = nsum (fun r => nsum (fun s => f (r * w + s)) w) h := by
  induction h with
  | zero => rw [Nat.zero_mul]; rfl
  | succ h ih => rw [Nat.add_mul, Nat.one_mul, nsum_add, ih, nsum]
theorem nsum_concat (A g : Nat → Nat) (c : Nat) : nsum (fun i => nsum (fun s => g (nsum A i + s)) (A i)) c = nsum g (nsum A c) := by
  induction c with
  | zero => rfl
  | succ c ih => rw [nsum, ih, nsum, nsum_add]
theorem cOf_nsum (F : Nat → Int) (q : Int) (n : Nat) : cOf F q n = nsum (fun k => if F k = q then 1 else 0) n := by
  induction n with
  | zero => rfl
  | succ n ih => rw [cOf, nsum, ih]

/-- A grid's counts are the whole's. -/
theorem grid_sum (A B f : Nat → Nat) (cx cy w h : Nat) (hA : nsum A cx = w) (hB : nsum B cy = h) :
    nsum (fun j => nsum (fun i => nsum (fun r => nsum (fun s => f ((nsum B j + r) * w + (nsum A i + s))) (A i)) (B j)) cx) cy = nsum f (h * w) := by
  have h1 : ∀ j, nsum (fun i => nsum (fun r => nsum (fun s => f ((nsum B j + r) * w + (nsum A i + s))) (A i)) (B j)) cx = nsum (fun r => nsum (fun t => f ((nsum B j + r) * w + t)) w) (B j) := by
    intro j
    rw [nsum_swap]
    apply nsum_congr
    intro r _
    rw [nsum_concat A (fun t => f ((nsum B j + r) * w + t)) cx, hA]
  rw [nsum_congr cy (fun j _ => h1 j), nsum_concat B (fun R => nsum (fun t => f (R * w + t)) w) cy, hB, ← nsum_mul]

/-- A column's width. -/
def colN (x w n : Int) (i : Nat) : Nat := (colW x w n i).toNat
theorem colW_pos (x w n : Int) (i : Nat) (hn : 0 < n) (hi : i < cnt x w n) (hw : 1 ≤ w) : 1 ≤ colW x w n i := by
  have a1 := (gr_lt x w n i hn).2 hi
  have a3 := gr_after x n i hn
  have m1 := imax_spec x (gr (x / n) n i)
  have m3 := imin_spec (x + w) (gr (x / n) n i + n)
  unfold colW
  omega
theorem colN_sum (x w n : Int) (hn : 0 < n) (hw : 1 ≤ w) : ∀ i, i ≤ cnt x w n → ((nsum (colN x w n) i : Nat) : Int) = pre (colW x w n) i
  | 0, _ => rfl
  | i + 1, hi => by
    have h1 := colN_sum x w n hn hw i (by omega)
    have h2 := colW_pos x w n i hn (by omega) hw
    rw [nsum, pre]
    unfold colN at *
    omega
theorem colN_all (x w n : Int) (hn : 0 < n) (hw : 1 ≤ w) : ((nsum (colN x w n) (cnt x w n) : Nat) : Int) = w := by
  rw [colN_sum x w n hn hw _ (Nat.le_refl _), pre_all x w n hn hw]
theorem col_start (x w n : Int) (hn : 0 < n) (hw : 1 ≤ w) (i : Nat) (hi : i < cnt x w n) : imax x (gr (x / n) n i) = x + (nsum (colN x w n) i : Nat) := by
  rw [colN_sum x w n hn hw i (by omega), pre_colW x w n hn i (by omega)]
  have a1 := (gr_lt x w n i hn).2 hi
  have m1 := imax_spec x (gr (x / n) n i)
  have m3 := imin_spec (x + w) (gr (x / n) n i)
  by_cases h0 : i = 0
  · rw [if_pos h0]
    subst h0
    have h5 := gr_first x n
    have h6 := Int.emod_nonneg x (show n ≠ 0 by omega)
    omega
  · rw [if_neg h0]
    obtain ⟨k, rfl⟩ : ∃ k, i = k + 1 := ⟨i - 1, by omega⟩
    have h7 := gr_after x n k hn
    have h8 := gr_succ (x / n) n k
    omega
theorem nsum_le (A : Nat → Nat) {i c : Nat} (h : i < c) : nsum A i + A i ≤ nsum A c := by
  obtain ⟨d, rfl⟩ : ∃ d, c = (i + 1) + d := ⟨c - (i + 1), by omega⟩
  rw [nsum_add, nsum]
  omega
/-- Tile k: where it lies, and its sides. -/
theorem tile_at (x y w h n : Int) (hn : 0 < n) (hw : 1 ≤ w) (hh : 1 ≤ h) (k : Nat) (hk : k < cnt y h n * cnt x w n) :
    tileNo x y w h n k = (x + (nsum (colN x w n) (k % cnt x w n) : Nat), y + (nsum (colN y h n) (k / cnt x w n) : Nat), ((colN x w n (k % cnt x w n) : Nat) : Int), ((colN y h n (k / cnt x w n) : Nat) : Int)) ∧
      1 ≤ colN x w n (k % cnt x w n) ∧ 1 ≤ colN y h n (k / cnt x w n) ∧ ((nsum (colN x w n) (k % cnt x w n) + colN x w n (k % cnt x w n) : Nat) : Int) ≤ w ∧ ((nsum (colN y h n) (k / cnt x w n) + colN y h n (k / cnt x w n) : Nat) : Int) ≤ h := by
  have hc := cnt_pos x w n hn hw
  have hi : k % cnt x w n < cnt x w n := Nat.mod_lt _ hc
  have hj : k / cnt x w n < cnt y h n := (Nat.div_lt_iff_lt_mul hc).2 hk
  have s1 := col_start x w n hn hw _ hi
  have s2 := col_start y h n hn hh _ hj
  have p1 := colW_pos x w n _ hn hi hw
  have p2 := colW_pos y h n _ hn hj hh
  have l1 := nsum_le (colN x w n) hi
  have l2 := nsum_le (colN y h n) hj
  have e1 := colN_all x w n hn hw
  have e2 := colN_all y h n hn hh
  have c1 : ((colN x w n (k % cnt x w n) : Nat) : Int) = colW x w n (k % cnt x w n) := by unfold colN; omega
  have c2 : ((colN y h n (k / cnt x w n) : Nat) : Int) = colW y h n (k / cnt x w n) := by unfold colN; omega
  refine ⟨?_, by unfold colN; omega, by unfold colN; omega, by omega, by omega⟩
  rw [c1, c2, ← s1, ← s2]
  rfl

/-- A tile's value is the frame's. -/
theorem val_cut (xs : List Nat) (ch rw_ w i1 j1 rh m : Nat) (hch : ch < 5) (hm : m < rw_ * rh) :
    valM (madeL (cutP xs rw_ w i1 j1) (4 * (rw_ * rh))) ch m = valM xs ch ((j1 + m / rw_) * w + i1 + m % rw_) := by
  have hat : ∀ c, c < 4 → (madeL (cutP xs rw_ w i1 j1) (4 * (rw_ * rh))).getD (4 * m + c) 0 = canon (xs.getD (4 * ((j1 + m / rw_) * w + i1 + m % rw_) + c) 0) := by
    intro c hc
    have h1 : (4 * m + c) / 4 = m := by omega
    have h2 : (4 * m + c) % 4 = c := by omega
    unfold madeL
    rw [List.getD_eq_getElem?_getD, List.getElem?_map, List.getElem?_range (by omega)]
    simp only [Option.map_some, Option.getD_some, h1, h2]
    rfl
  unfold valM
  split
  · unfold lumM lumaV
    have h0 := hat 0 (by omega)
    simp only [Nat.add_zero] at h0 ⊢
    rw [h0, hat 1 (by omega), hat 2 (by omega)]
    simp only [fop_canon_right]
  · rw [hat ch (by omega), canon_idem]
theorem bin_cut (lo hi n : Nat) (xs : List Nat) (ch rw_ w i1 j1 rh m : Nat) (hch : ch < 5) (hm : m < rw_ * rh) :
    binM lo hi n ch (madeL (cutP xs rw_ w i1 j1) (4 * (rw_ * rh))) m = binM lo hi n ch xs ((j1 + m / rw_) * w + i1 + m % rw_) := by
  unfold binM
  rw [val_cut xs ch rw_ w i1 j1 rh m hch hm]

/-- The count of answer q in tile k. -/
def tileCnt (F : Nat → Int) (x y : Int) (w h : Nat) (n : Int) (q : Int) (k : Nat) : Nat :=
  cOf (fun m => F ((nsum (colN y h n) (k / cnt x w n) + m / colN x w n (k % cnt x w n)) * w + nsum (colN x w n) (k % cnt x w n) + m % colN x w n (k % cnt x w n))) q (colN x w n (k % cnt x w n) * colN y h n (k / cnt x w n))
theorem tiles_sum (F : Nat → Int) (x y : Int) (w h : Nat) (n q : Int) (hn : 0 < n) (hw : 1 ≤ w) (hh : 1 ≤ h) :
    nsum (tileCnt F x y w h n q) (cnt y h n * cnt x w n) = cOf F q (w * h) := by
  rw [nsum_mul]
  have hA : nsum (colN x w n) (cnt x w n) = w := by have := colN_all x w n hn (by omega); omega
  have hB : nsum (colN y h n) (cnt y h n) = h := by have := colN_all y h n hn (by omega); omega
  have hg := grid_sum (colN x w n) (colN y h n) (fun k => if F k = q then 1 else 0) (cnt x w n) (cnt y h n) w h hA hB
  rw [cOf_nsum, Nat.mul_comm w h, ← hg]
  apply nsum_congr
  intro j _
  apply nsum_congr
  intro i hi
  unfold tileCnt
  have e1 : (j * cnt x w n + i) % cnt x w n = i := by rw [Nat.mul_comm, Nat.mul_add_mod, Nat.mod_eq_of_lt hi]
  have e2 : (j * cnt x w n + i) / cnt x w n = j := by rw [Nat.mul_comm, Nat.mul_add_div (by omega), Nat.div_eq_of_lt hi, Nat.add_zero]
  rw [e1, e2, cOf_nsum, Nat.mul_comm (colN x w n i), nsum_mul]
  apply nsum_congr
  intro r _
  apply nsum_congr
  intro s hs
  have d1 : (r * colN x w n i + s) / colN x w n i = r := by rw [Nat.mul_comm, Nat.mul_add_div (by omega), Nat.div_eq_of_lt hs, Nat.add_zero]
  have d2 : (r * colN x w n i + s) % colN x w n i = s := by rw [Nat.mul_comm, Nat.mul_add_mod, Nat.mod_eq_of_lt hs]
  simp only [d1, d2, Nat.add_assoc]
theorem cOf_congr {F G : Nat → Int} (q : Int) : ∀ n, (∀ k, k < n → F k = G k) → cOf F q n = cOf G q n
  | 0, _ => rfl
  | n + 1, h => by rw [cOf, cOf, cOf_congr q n (fun k hk => h k (by omega)), h n (by omega)]
/-- What Histogram counts in the tile that was cut. -/
theorem tile_hist (lo hi many ch : Nat) (xs : List Nat) (x y : Int) (w h : Nat) (n q : Int) (k : Nat) (hch : ch < 5) :
    cOf (binM lo hi many ch (madeL (cutP xs (colN x w n (k % cnt x w n)) w (nsum (colN x w n) (k % cnt x w n)) (nsum (colN y h n) (k / cnt x w n))) (4 * (colN x w n (k % cnt x w n) * colN y h n (k / cnt x w n))))) q (colN x w n (k % cnt x w n) * colN y h n (k / cnt x w n)) = tileCnt (binM lo hi many ch xs) x y w h n q k := by
  unfold tileCnt
  apply cOf_congr
  intro m hm
  rw [bin_cut lo hi many xs ch _ w _ _ _ m hch hm]
end Go.Proofs.Ytoffnmpnhddaiaa
