/- Sums over a grid of tiles; where a tile lies: plain. No program in sight. -/
import Derived.Test.YtccbhghpghijiaaTilT
namespace Go.Proofs.Ytccbhghpghijiaa
open Go.RowKit

def nsum (f : Nat → Nat) : Nat → Nat
  | 0 => 0
  | n + 1 => nsum f n + f n
theorem nsum_congr {f g : Nat → Nat} : ∀ n, (∀ k, k < n → f k = g k) → nsum f n = nsum g n
  | 0, _ => rfl
  | n + 1, h => by rw [nsum, nsum, nsum_congr n (fun k hk => h k (by omega)), h n (by omega)]
theorem nsum_add (f : Nat → Nat) (a b : Nat) : nsum f (a + b) = nsum f a + nsum (fun s => f (a + s)) b := by
  induction b with
  | zero => rfl
  | succ b ih => rw [← Nat.add_assoc, nsum, ih, nsum]; omega
theorem nsum_plus (f g : Nat → Nat) (n : Nat) : nsum (fun k => f k + g k) n = nsum f n + nsum g n := by
  induction n with
  | zero => rfl
  | succ n ih => rw [nsum, nsum, nsum, ih]; omega
theorem nsum_nil (n : Nat) : nsum (fun _ => 0) n = 0 := by
  induction n with
  | zero => rfl
  | succ n ih => rw [nsum, ih]
theorem nsum_swap (f : Nat → Nat → Nat) (m n : Nat) : nsum (fun i => nsum (fun r => f i r) n) m = nsum (fun r => nsum (fun i => f i r) m) n := by
  induction m with
  | zero => simp only [nsum]; rw [nsum_nil]
  | succ m ih =>
    simp only [nsum]
    rw [ih, ← nsum_plus]
theorem nsum_mul (f : Nat → Nat) (w : Nat) (h : Nat) : nsum f (h * w) = nsum (fun r => nsum (fun s => f (r * w + s)) w) h := by
  induction h with
  | zero => rw [Nat.zero_mul]; rfl
  | succ h ih => rw [Nat.add_mul, Nat.one_mul, nsum_add, ih, nsum]
theorem nsum_concat (A g : Nat → Nat) (c : Nat) : nsum (fun i => nsum (fun s => g (nsum A i + s)) (A i)) c = nsum g (nsum A c) := by
  induction c with
  | zero => rfl
  | succ c ih => rw [nsum, ih, nsum, nsum_add]
/-- A grid's counts are the whole's. -/
theorem grid_sum (A B f : Nat → Nat) (cx cy w h : Nat) (hA : nsum A cx = w) (hB : nsum B cy = h) :
    nsum (fun j => nsum (fun i => nsum (fun r => nsum (fun s => f ((nsum B j + r) * w + (nsum A i + s))) (A i)) (B j)) cx) cy = nsum f (h * w) := by
  have h1 : ∀ j, nsum (fun i => nsum (fun r => nsum (fun s => f ((nsum B j + r) * w + (nsum A i + s))) (A i)) (B j)) cx = nsum (fun r => nsum (fun t => f ((nsum B j + r) * w + t)) w) (B j) := by
    intro j
    rw [nsum_swap]
    apply nsum_congr
    intro r _
    rw [nsum_concat A (fun t => f ((nsum B j + r) * w + t)) cx, hA]
  rw [nsum_congr cy (fun j _ => h1 j), nsum_concat B (fun R => nsum (fun t => f (R * w + t)) w) cy, hB, ← nsum_mul]

/-- A column's width. -/
def colN (x w n : Int) (i : Nat) : Nat := (colW x w n i).toNat
theorem colW_pos (x w n : Int) (i : Nat) (hn : 0 < n) (hi : i < cnt x w n) (hw : 1 ≤ w) : 1 ≤ colW x w n i := by
  have a1 := (gr_lt x w n i hn).2 hi
  have a3 := gr_after x n i hn
  have m1 := imax_spec x (gr (x / n) n i)
  have m3 := imin_spec (x + w) (gr (x / n) n i + n)
  unfold colW
  omega
theorem colN_sum (x w n : Int) (hn : 0 < n) (hw : 1 ≤ w) : ∀ i, i ≤ cnt x w n → ((nsum (colN x w n) i : Nat) : Int) = pre (colW x w n) i
  | 0, _ => rfl
  | i + 1, hi => by
    have h1 := colN_sum x w n hn hw i (by omega)
    have h2 := colW_pos x w n i hn (by omega) hw
    rw [nsum, pre]
    unfold colN at *
    omega
theorem colN_all (x w n : Int) (hn : 0 < n) (hw : 1 ≤ w) : ((nsum (colN x w n) (cnt x w n) : Nat) : Int) = w := by
  rw [colN_sum x w n hn hw _ (Nat.le_refl _), pre_all x w n hn hw]
theorem col_start (x w n : Int) (hn : 0 < n) (hw : 1 ≤ w) (i : Nat) (hi : i < cnt x w n) : imax x (gr (x / n) n i) = x + (nsum (colN x w n) i : Nat) := by
  rw [colN_sum x w n hn hw i (by omega), pre_colW x w n hn i (by omega)]
  have a1 := (gr_lt x w n i hn).2 hi
  have m1 := imax_spec x (gr (x / n) n i)
  have m3 := imin_spec (x + w) (gr (x / n) n i)
  by_cases h0 : i = 0
  · rw [if_pos h0]
    subst h0
    have h5 := gr_first x n
    have h6 := Int.emod_nonneg x (show n ≠ 0 by omega)
    omega
  · rw [if_neg h0]
    obtain ⟨k, rfl⟩ : ∃ k, i = k + 1 := ⟨i - 1, by omega⟩
    have h7 := gr_after x n k hn
    have h8 := gr_succ (x / n) n k
    omega
theorem nsum_le (A : Nat → Nat) {i c : Nat} (h : i < c) : nsum A i + A i ≤ nsum A c := by
  obtain ⟨d, rfl⟩ : ∃ d, c = (i + 1) + d := ⟨c - (i + 1), by omega⟩
  rw [nsum_add, nsum]
  omega
/-- Tile k: where it lies, and its sides. -/
theorem tile_at (x y w h n : Int) (hn : 0 < n) (hw : 1 ≤ w) (hh : 1 ≤ h) (k : Nat) (hk : k < cnt y h n * cnt x w n) :
    tileNo x y w h n k = (x + (nsum (colN x w n) (k % cnt x w n) : Nat), y + (nsum (colN y h n) (k / cnt x w n) : Nat), ((colN x w n (k % cnt x w n) : Nat) : Int), ((colN y h n (k / cnt x w n) : Nat) : Int)) ∧
      1 ≤ colN x w n (k % cnt x w n) ∧ 1 ≤ colN y h n (k / cnt x w n) ∧ ((nsum (colN x w n) (k % cnt x w n) + colN x w n (k % cnt x w n) : Nat) : Int) ≤ w ∧ ((nsum (colN y h n) (k / cnt x w n) + colN y h n (k / cnt x w n) : Nat) : Int) ≤ h := by
  have hc := cnt_pos x w n hn hw
  have hi : k % cnt x w n < cnt x w n := Nat.mod_lt _ hc
  have hj : k / cnt x w n < cnt y h n := (Nat.div_lt_iff_lt_mul hc).2 hk
  have s1 := col_start x w n hn hw _ hi
  have s2 := col_start y h n hn hh _ hj
  have p1 := colW_pos x w n _ hn hi hw
  have p2 := colW_pos y h n _ hn hj hh
  have l1 := nsum_le (colN x w n) hi
  have l2 := nsum_le (colN y h n) hj
  have e1 := colN_all x w n hn hw
  have e2 := colN_all y h n hn hh
  have c1 : ((colN x w n (k % cnt x w n) : Nat) : Int) = colW x w n (k % cnt x w n) := by unfold colN; omega
  have c2 : ((colN y h n (k / cnt x w n) : Nat) : Int) = colW y h n (k / cnt x w n) := by unfold colN; omega
  refine ⟨?_, by unfold colN; omega, by unfold colN; omega, by omega, by omega⟩
  rw [c1, c2, ← s1, ← s2]
  rfl
end Go.Proofs.Ytccbhghpghijiaa
