/- Tiles: every outcome; the tiles' areas; a list of tiles as a slice. -/
import Derived.Test.YtccbhghpghijiaaEqR
namespace Go.Proofs.Ytccbhghpghijiaa
open Go.RowKit

/-- The error of tiling. -/
def tErr (x y w h n : Int) : Int := if checkRegion x y w h = 0 then (if n < 1 ∨ 256 < n then 3 else 0) else checkRegion x y w h
def tMany (x y w h n : Int) : Nat := if tErr x y w h n = 0 then cnt y h n * cnt x w n else 0
theorem tErr_zero {x y w h n : Int} (he : tErr x y w h n = 0) : checkRegion x y w h = 0 ∧ 1 ≤ n ∧ n ≤ 256 := by
  unfold tErr at he
  split at he
  · split at he
    · omega
    · exact ⟨by assumption, by omega, by omega⟩
  · contradiction
theorem tMany_le (x y w h n : Int) : tMany x y w h n ≤ 65536 := by
  unfold tMany
  split
  · rename_i he
    obtain ⟨hc, n1, n2⟩ := tErr_zero he
    obtain ⟨a1, a2, a3, a4, _⟩ := checkRegion_zero hc
    have := Nat.mul_le_mul (cnt_le y h n (by omega) a4) (cnt_le x w n (by omega) a2)
    omega
  · omega

theorem tileC_len (x y w h n : Int) (N : Nat) : (tileC x y w h n N).length = N * 4 := by
  induction N with
  | zero => rfl
  | succ N ih => rw [tileC_succ, List.length_append, ih, rgC_len]; omega
theorem tileC_at (x y w h n : Int) (N k c : Nat) (hk : k < N) (hc : c < 4) : (tileC x y w h n N)[k * 4 + c]? = (rgC (tileNo x y w h n k))[c]? := by
  induction N with
  | zero => omega
  | succ N ih =>
    rw [tileC_succ]
    have hl := tileC_len x y w h n N
    by_cases h1 : k < N
    · rw [List.getElem?_append_left (by omega)]
      exact ih h1
    · obtain rfl : k = N := by omega
      rw [List.getElem?_append_right (by omega), hl]
      congr 1
      omega
theorem addr_add0 (b k : Nat) : (⟨b, 0, none⟩ : Addr).add k = ⟨b, k, none⟩ := by unfold Addr.add; split <;> simp_all
theorem rgS_of {W : World} {B : Nat} {v : Value} {x y w h n : Int} {N : Nat} (hown : W.ownsRow B 23 4 v N (tileC x y w h n N)) : RgS W v N (tileNo x y w h n) := by
  rcases hown.2 with ⟨rfl, hN⟩ | ⟨g, cap, cur, rfl, hB, hg, hn, _⟩
  · exact .inl ⟨hN, none, 0, by subst hN; rfl⟩
  · refine .inr ⟨g, cap, rfl, hn, (Array.getElem?_eq_some_iff.1 hg).1, fun k hk => ?_⟩
    have hc := hown.cells (g := g) rfl
    have ha : ∀ c, c < 4 → ∀ u, (rgC (tileNo x y w h n k))[c]? = some u → W.cell? ⟨g, k * 4 + c, none⟩ = some u := by
      intro c hc4 u hu
      have := hc (k * 4 + c) u (by rw [tileC_at x y w h n N k c hk hc4]; exact hu)
      rw [addr_add0] at this
      exact this
    exact ⟨ha 0 (by omega) _ rfl, ha 1 (by omega) _ rfl, ha 2 (by omega) _ rfl, ha 3 (by omega) _ rfl⟩
theorem RgS.keep {w w' : World} {v : Value} {N : Nat} {T : Nat → Int × Int × Int × Int} (h : RgS w v N T) (hb : Below w.heap.size w w') : RgS w' v N T := by
  rcases h with h | ⟨g, c, e1, e2, e3, e4⟩
  · exact .inl h
  · refine .inr ⟨g, c, e1, e2, Nat.lt_of_lt_of_le e3 hb.size, fun k hk => ?_⟩
    obtain ⟨p1, p2, p3, p4⟩ := e4 k hk
    exact ⟨(hb.cell (p := ⟨g, _, none⟩) e3).trans p1, (hb.cell (p := ⟨g, _, none⟩) e3).trans p2, (hb.cell (p := ⟨g, _, none⟩) e3).trans p3, (hb.cell (p := ⟨g, _, none⟩) e3).trans p4⟩

def colW (x w n : Int) (i : Nat) : Int := imin (x + w) (gr (x / n) n i + n) - imax x (gr (x / n) n i)
def pre (F : Nat → Int) : Nat → Int
  | 0 => 0
  | i + 1 => pre F i + F i
theorem pre_colW (x w n : Int) (hn : 0 < n) (i : Nat) : i ≤ cnt x w n → pre (colW x w n) i = if i = 0 then 0 else imin (x + w) (gr (x / n) n i) - x := by
  induction i with
  | zero => intro _; rfl
  | succ i ih =>
    intro hi
    have h1 := ih (by omega)
    have h2 := (gr_lt x w n i hn).2 (by omega)
    have h3 := gr_after x n i hn
    have h4 := gr_succ (x / n) n i
    show pre (colW x w n) i + colW x w n i = _
    rw [h1, if_neg (show ¬ (i + 1 = 0) by omega), h4]
    unfold colW
    have m1 := imin_spec (x + w) (gr (x / n) n i + n)
    have m2 := imax_spec x (gr (x / n) n i)
    have m3 := imin_spec (x + w) (gr (x / n) n i)
    by_cases h0 : i = 0
    · rw [if_pos h0]
      subst h0
      have h5 := gr_first x n
      have h6 := Int.emod_nonneg x (show n ≠ 0 by omega)
      omega
    · rw [if_neg h0]
      obtain ⟨k, rfl⟩ : ∃ k, i = k + 1 := ⟨i - 1, by omega⟩
      have h7 := gr_after x n k hn
      have h8 := gr_succ (x / n) n k
      omega
theorem pre_all (x w n : Int) (hn : 0 < n) (hw : 1 ≤ w) : pre (colW x w n) (cnt x w n) = w := by
  have h1 := pre_colW x w n hn (cnt x w n) (Nat.le_refl _)
  have h2 := cnt_pos x w n hn hw
  rw [if_neg (by omega)] at h1
  have h3 : ¬ gr (x / n) n (cnt x w n) < x + w := fun hh => absurd ((gr_lt x w n _ hn).1 hh) (Nat.lt_irrefl _)
  have m := imin_spec (x + w) (gr (x / n) n (cnt x w n))
  omega
def area (T : Int × Int × Int × Int) : Int := T.2.2.1 * T.2.2.2
theorem area_tile (x y w h n : Int) (i j : Nat) (hi : i < cnt x w n) : area (tileNo x y w h n (j * cnt x w n + i)) = colW x w n i * colW y h n j := by
  rw [tileNo_at x y w h n i j hi]
  rfl
theorem area_pre (x y w h n : Int) (j : Nat) : (∀ i, i ≤ cnt x w n → pre (fun k => area (tileNo x y w h n k)) (j * cnt x w n + i) = pre (colW x w n) (cnt x w n) * pre (colW y h n) j + pre (colW x w n) i * colW y h n j) := by
  induction j with
  | zero =>
    intro i
    induction i with
    | zero => intro _; simp [pre]
    | succ i ih =>
      intro hi
      have h1 := ih (by omega)
      have h2 := area_tile x y w h n i 0 (by omega)
      rw [← Nat.add_assoc]
      show pre _ _ + area _ = _
      rw [h1, h2]
      show _ = _ + (pre (colW x w n) i + colW x w n i) * _
      rw [Int.add_mul]
      omega
  | succ j ihj =>
    have hstart : pre (fun k => area (tileNo x y w h n k)) ((j + 1) * cnt x w n) = pre (colW x w n) (cnt x w n) * pre (colW y h n) (j + 1) := by
      rw [Nat.add_mul, Nat.one_mul, ihj _ (Nat.le_refl _)]
      show _ = _ * (pre (colW y h n) j + colW y h n j)
      rw [Int.mul_add]
    intro i
    induction i with
    | zero => intro _; rw [Nat.add_zero, hstart]; simp [pre]
    | succ i ih =>
      intro hi
      have h1 := ih (by omega)
      have h2 := area_tile x y w h n i (j + 1) (by omega)
      rw [← Nat.add_assoc]
      show pre _ _ + area _ = _
      rw [h1, h2]
      show _ = _ + (pre (colW x w n) i + colW x w n i) * _
      rw [Int.add_mul]
      omega
theorem area_all (x y w h n : Int) (hn : 0 < n) (hw : 1 ≤ w) (hh : 1 ≤ h) : pre (fun k => area (tileNo x y w h n k)) (cnt y h n * cnt x w n) = w * h := by
  have h1 := area_pre x y w h n (cnt y h n) 0 (by omega)
  rw [Nat.add_zero, pre_all x w n hn hw, pre_all y h n hn hh] at h1
  rw [h1]
  simp [pre]
/-- A tile's sides. -/
theorem tile_bd (x y w h n : Int) (k : Nat) (hn : 0 < n) (hn2 : n ≤ 256) (hk : k < cnt y h n * cnt x w n) (hw : 1 ≤ w) (hh : 1 ≤ h) :
    1 ≤ (tileNo x y w h n k).2.2.1 ∧ (tileNo x y w h n k).2.2.1 ≤ 256 ∧ 1 ≤ (tileNo x y w h n k).2.2.2 ∧ (tileNo x y w h n k).2.2.2 ≤ 256 := by
  have hc := cnt_pos x w n hn hw
  have hi : k % cnt x w n < cnt x w n := Nat.mod_lt _ hc
  have hj : k / cnt x w n < cnt y h n := (Nat.div_lt_iff_lt_mul hc).2 hk
  have a1 := (gr_lt x w n _ hn).2 hi
  have a2 := (gr_lt y h n _ hn).2 hj
  have a3 := gr_after x n (k % cnt x w n) hn
  have a4 := gr_after y n (k / cnt x w n) hn
  have m1 := imax_spec x (gr (x / n) n (k % cnt x w n))
  have m2 := imax_spec y (gr (y / n) n (k / cnt x w n))
  have m3 := imin_spec (x + w) (gr (x / n) n (k % cnt x w n) + n)
  have m4 := imin_spec (y + h) (gr (y / n) n (k / cnt x w n) + n)
  unfold tileNo tileAt
  simp only
  omega
theorem area_bd (x y w h n : Int) (k : Nat) (hn : 0 < n) (hn2 : n ≤ 256) (hw : 1 ≤ w) (hh : 1 ≤ h) : k ≤ cnt y h n * cnt x w n → 0 ≤ pre (fun k => area (tileNo x y w h n k)) k ∧ pre (fun k => area (tileNo x y w h n k)) k ≤ k * 65536 := by
  induction k with
  | zero => intro _; simp [pre]
  | succ k ih =>
    intro hk
    have h1 := ih (by omega)
    obtain ⟨b1, b2, b3, b4⟩ := tile_bd x y w h n k hn hn2 (by omega) hw hh
    have h2 := mul_bd _ _ b1 b2 b3 b4
    show 0 ≤ pre _ k + area _ ∧ pre _ k + area _ ≤ _
    unfold area at *
    omega


set_option maxRecDepth 100000 in
set_option maxHeartbeats 1000000 in
theorem frame_TilesT (x y w h n : Int) (W : World) :
    Calls Try.prog 9 #[.agg #[.int .i64 x, .int .i64 y, .int .i64 w, .int .i64 h], .int .i64 n] W fun e w' =>
      ∃ v, e = .returned (.tuple #[v, .int .i64 (tErr x y w h n)]) ∧ w'.ownsRow W.heap.size 23 4 v (tMany x y w h n) (tileC x y w h n (tMany x y w h n)) ∧ Below W.heap.size W w' := by
  obtain ⟨k, hk⟩ : ∃ k, checkRegion x y w h = k := ⟨_, rfl⟩
  by_cases h0 : k = 0
  · subst h0
    by_cases hn : n < 1 ∨ 256 < n
    · have he : tErr x y w h n = 3 := by unfold tErr; rw [if_pos hk, if_pos hn]
      have hm : tMany x y w h n = 0 := by unfold tMany; rw [he]; rfl
      rw [he, hm]
      clear he hm
      go_enter Try.func9, Try.ntmps9
      go_wp2_with fail
      refine (frame_CheckRegion _ _ _ _ _).mono ?_
      rw [hk]
      rintro e w1 ⟨rfl, hb1⟩
      have B1 := bcall (bnew (Below.refl _ W)) hb1
      clear hb1 hk
      go_wp2_with fail
      all_goals first
        | omega
        | (go_ret2
           exact ⟨_, rfl, World.ownsRow_nil _ _ _ _, B1⟩)
    · have he : tErr x y w h n = 0 := by unfold tErr; rw [if_pos hk, if_neg hn]
      have hm : tMany x y w h n = cnt y h n * cnt x w n := by unfold tMany; rw [he]; rfl
      rw [he, hm]
      exact frame_Tiles x y w h n W hk (by omega) (by omega)
  · have he : tErr x y w h n = k := by unfold tErr; rw [if_neg (by rw [hk]; exact h0), hk]
    have hm : tMany x y w h n = 0 := by unfold tMany; rw [he, if_neg h0]
    rw [he, hm]
    clear he hm
    go_enter Try.func9, Try.ntmps9
    go_wp2_with fail
    refine (frame_CheckRegion _ _ _ _ _).mono ?_
    rw [hk]
    rintro e w1 ⟨rfl, hb1⟩
    have B1 := bcall (bnew (Below.refl _ W)) hb1
    clear hb1 hk
    go_wp2_with fail
    all_goals first
      | omega
      | (go_ret2
         exact ⟨_, rfl, World.ownsRow_nil _ _ _ _, B1⟩)

end Go.Proofs.Ytccbhghpghijiaa
