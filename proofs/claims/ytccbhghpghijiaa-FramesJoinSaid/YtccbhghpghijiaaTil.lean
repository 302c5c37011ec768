/- Tiles: the grid, the program's tiles and the reference's. -/
import Derived.Test.YtccbhghpghijiaaRgc
import Derived.OwnWalk
namespace Go.Proofs.Ytccbhghpghijiaa
open Go.RowKit

/-- The start of column i. -/
def gr (q n : Int) (i : Nat) : Int := (q + i) * n
theorem gr_zero (q n : Int) : gr q n 0 = q * n := by simp [gr]
theorem gr_succ (q n : Int) (i : Nat) : gr q n (i + 1) = gr q n i + n := by
  unfold gr
  have : q + ((i + 1 : Nat) : Int) = (q + i) + 1 := by omega
  rw [this, Int.add_mul, Int.one_mul]
theorem gr_ge (q n : Int) (i : Nat) (hn : 0 < n) : gr q n 0 ≤ gr q n i := by
  induction i with
  | zero => exact Int.le_refl _
  | succ i ih => rw [gr_succ]; omega
theorem gr_first (x n : Int) : gr (x / n) n 0 = x - x % n := by
  rw [gr_zero]
  have := Int.mul_ediv_add_emod x n
  rw [Int.mul_comm]
  omega
theorem gr_wrap (x n : Int) (i : Nat) (hn : 0 < n) (h1 : -1048576 ≤ x) (h2 : x ≤ 1048576) (hn2 : n ≤ 256) (hi : i ≤ 1000) : wrap64 ((x / n + (i : Int)) * n) = gr (x / n) n i := by
  refine IntWalk.wrap64_in _ ?_
  have e : (x / n + (i : Int)) * n = gr (x / n) n 0 + i * n := by unfold gr; rw [Int.add_mul, Int.add_mul]; simp
  rw [e, gr_first]
  have m1 := Int.emod_nonneg x (show n ≠ 0 by omega)
  have m2 := Int.emod_lt_of_pos x hn
  have m3 : (i : Int) * n ≤ 1000 * 256 := Int.mul_le_mul (by omega) hn2 (by omega) (by omega)
  have m4 : 0 ≤ (i : Int) * n := Int.mul_nonneg (by omega) (by omega)
  generalize (i : Int) * n = k at *
  omega
theorem ediv_bd (x n : Int) (hn : 0 < n) (h1 : -1048576 ≤ x) (h2 : x ≤ 1048576) : -1048576 ≤ x / n ∧ x / n ≤ 1048576 := by
  have a := (Int.le_ediv_iff_mul_le (a := -1048576) (b := x) hn).2 (by omega)
  have b := (Int.ediv_lt_iff_lt_mul (a := x) (b := 1048577) hn).2 (by omega)
  omega
/-- How many columns. -/
def cnt (x w n : Int) : Nat := ((x + w - 1) / n - x / n + 1).toNat
theorem gr_lt (x w n : Int) (i : Nat) (hn : 0 < n) : gr (x / n) n i < x + w ↔ i < cnt x w n := by
  unfold gr cnt
  have h : x / n + (i : Int) ≤ (x + w - 1) / n ↔ (x / n + (i : Int)) * n ≤ x + w - 1 := Int.le_ediv_iff_mul_le hn
  generalize (x / n + (i : Int)) * n = g at *
  generalize (x + w - 1) / n = r at *
  generalize x / n = q at *
  omega
theorem gr_after (x n : Int) (i : Nat) (hn : 0 < n) : x < gr (x / n) n i + n := by
  have h1 := gr_ge (x / n) n i hn
  rw [gr_first] at h1
  have := Int.emod_lt_of_pos x hn
  omega
theorem gr_low (x n : Int) (i : Nat) (hn : 0 < n) : x - n < gr (x / n) n i := by
  have := gr_after x n i hn
  omega
theorem cnt_le (x w n : Int) (hn : 0 < n) (hw : w ≤ 256) : cnt x w n ≤ 256 := by
  by_cases h : cnt x w n ≤ 256
  · exact h
  · have h1 := (gr_lt x w n 256 hn).2 (by omega)
    have h2 : gr (x / n) n 256 = gr (x / n) n 0 + 256 * n := by
      unfold gr
      rw [Int.add_mul, Int.add_mul]
      simp
    rw [h2, gr_first] at h1
    have := Int.emod_lt_of_pos x hn
    omega
theorem cnt_pos (x w n : Int) (hn : 0 < n) (hw : 1 ≤ w) : 0 < cnt x w n := by
  refine (gr_lt x w n 0 hn).1 ?_
  rw [gr_first]
  have := Int.emod_nonneg x (show n ≠ 0 by omega)
  omega

/-- The tile of column i and row j. -/
def tileAt (x y w h n : Int) (i j : Nat) : Int × Int × Int × Int :=
  (imax x (gr (x / n) n i), imax y (gr (y / n) n j), imin (x + w) (gr (x / n) n i + n) - imax x (gr (x / n) n i), imin (y + h) (gr (y / n) n j + n) - imax y (gr (y / n) n j))
theorem tile_common (x y w h n : Int) (i j : Nat) (hn : 0 < n) (hi : i < cnt x w n) (hj : j < cnt y h n) (hw : 1 ≤ w) (hh : 1 ≤ h) :
    commonOf x y w h (gr (x / n) n i) (gr (y / n) n j) n n = (tileAt x y w h n i j, true) := by
  have a1 := (gr_lt x w n i hn).2 hi
  have a2 := (gr_lt y h n j hn).2 hj
  have a3 := gr_after x n i hn
  have a4 := gr_after y n j hn
  unfold commonOf tileAt
  have m1 := imax_spec x (gr (x / n) n i)
  have m2 := imax_spec y (gr (y / n) n j)
  have m3 := imin_spec (x + w) (gr (x / n) n i + n)
  have m4 := imin_spec (y + h) (gr (y / n) n j + n)
  rw [if_neg (by omega)]
/-- Tile k, row by row. -/
def tileNo (x y w h n : Int) (k : Nat) : Int × Int × Int × Int := tileAt x y w h n (k % cnt x w n) (k / cnt x w n)
theorem tileNo_at (x y w h n : Int) (i j : Nat) (hi : i < cnt x w n) : tileNo x y w h n (j * cnt x w n + i) = tileAt x y w h n i j := by
  unfold tileNo
  have h1 : (j * cnt x w n + i) % cnt x w n = i := by rw [Nat.add_comm, Nat.add_mul_mod_self_right]; exact Nat.mod_eq_of_lt hi
  have h2 : (j * cnt x w n + i) / cnt x w n = j := by rw [Nat.add_comm, Nat.add_mul_div_right _ _ (by omega), Nat.div_eq_of_lt hi]; omega
  rw [h1, h2]

/-- A region's cells. -/
def rgC (r : Int × Int × Int × Int) : List Value := [.int .i64 r.1, .int .i64 r.2.1, .int .i64 r.2.2.1, .int .i64 r.2.2.2]
theorem rgC_len (r : Int × Int × Int × Int) : (rgC r).length = 4 := rfl
/-- The cells of the first k tiles. -/
def tileC (x y w h n : Int) (k : Nat) : List Value := (List.range k).flatMap fun a => rgC (tileNo x y w h n a)
theorem tileC_succ (x y w h n : Int) (k : Nat) : tileC x y w h n (k + 1) = tileC x y w h n k ++ rgC (tileNo x y w h n k) := by
  unfold tileC
  rw [List.range_succ, List.flatMap_append]
  simp

theorem alloc_sz' (w : World) (ob : Obj) : (w.alloc ob).heap.size = w.heap.size + 1 := by simp
theorem ownsRow_below {w w' : World} {B : Nat} {e : TypeId} {s : Nat} {v : Value} {n : Nat} {xs : List Value} (h : w.ownsRow B e s v n xs) (hb : Below w.heap.size w w') : w'.ownsRow B e s v n xs := by
  refine ⟨h.1, ?_⟩
  rcases h.2 with h0 | ⟨g, cap, cur, e1, e2, e3, e4⟩
  · exact .inl h0
  · exact .inr ⟨g, cap, cur, e1, e2, (hb.block g (Array.getElem?_eq_some_iff.1 e3).1).trans e3, e4⟩

theorem bbnew {B : Nat} {W w0 : World} {ob : Obj} (h : Below B W w0) (hB : B ≤ w0.heap.size) : Below B W (w0.alloc ob) := h.alloc hB ob
theorem infoR : (Try.prog.info? 23).map (fun i => (i.zero, i.size, i.bytes)) = some (some (.agg #[.int .i64 0, .int .i64 0, .int .i64 0, .int .i64 0]), 4, 32) := by kernel_rfl

theorem cells_four_new (w : World) (a b c d : Value) (t : TypeId) : ∀ j u, [a, b, c, d][j]? = some u → (w.alloc (.cells #[a, b, c, d] t)).cell? ((⟨w.heap.size, 0, none⟩ : Addr).add j) = some u := by
  intro j u hj
  match j, hj with
  | 0, hj => simp at hj; subst hj; simp [Addr.add]
  | 1, hj => simp at hj; subst hj; simp [Addr.add]
  | 2, hj => simp at hj; subst hj; simp [Addr.add]
  | 3, hj => simp at hj; subst hj; simp [Addr.add]

theorem frame_Common_at (ax ay aw ah bx b_y bw bh a b c d : Int) (r : Bool) (hv : commonOf ax ay aw ah bx b_y bw bh = ((a, b, c, d), r)) (W : World) (a1 : -4000000 ≤ ax) (a2 : ax ≤ 4000000) (a3 : -4000000 ≤ ay) (a4 : ay ≤ 4000000) (a5 : 0 ≤ aw) (a6 : aw ≤ 4000) (a7 : 0 ≤ ah) (a8 : ah ≤ 4000)
    (b1 : -4000000 ≤ bx) (b2 : bx ≤ 4000000) (b3 : -4000000 ≤ b_y) (b4 : b_y ≤ 4000000) (b5 : 0 ≤ bw) (b6 : bw ≤ 4000) (b7 : 0 ≤ bh) (b8 : bh ≤ 4000) :
    Calls Try.prog 27 #[.agg #[.int .i64 ax, .int .i64 ay, .int .i64 aw, .int .i64 ah], .agg #[.int .i64 bx, .int .i64 b_y, .int .i64 bw, .int .i64 bh]] W fun e w' =>
      e = .returned (.tuple #[.agg #[.int .i64 a, .int .i64 b, .int .i64 c, .int .i64 d], .bool r]) ∧ Below W.heap.size W w' := by
  have h := frame_Common ax ay aw ah bx b_y bw bh W a1 a2 a3 a4 a5 a6 a7 a8 b1 b2 b3 b4 b5 b6 b7 b8
  rw [hv] at h
  exact h
set_option maxRecDepth 100000 in
set_option maxHeartbeats 2000000 in
theorem frame_Tiles (x y w h n : Int) (W : World) (hc : checkRegion x y w h = 0) (n1 : 1 ≤ n) (n2 : n ≤ 256) :
    Calls Try.prog 9 #[.agg #[.int .i64 x, .int .i64 y, .int .i64 w, .int .i64 h], .int .i64 n] W fun e w' =>
      ∃ v, e = .returned (.tuple #[v, .int .i64 0]) ∧ w'.ownsRow W.heap.size 23 4 v (cnt y h n * cnt x w n) (tileC x y w h n (cnt y h n * cnt x w n)) ∧ Below W.heap.size W w' := by
  obtain ⟨i0, hi, hz0, hz1, hz2⟩ := info_parts infoR
  obtain ⟨a1, a2, a3, a4, a5, a6, a7, a8, a9⟩ := checkRegion_zero hc
  have hn0 : 0 < n := by omega
  have cx := cnt_le x w n hn0 a2
  have cy := cnt_le y h n hn0 a4
  have l1 : ¬ n < 1 := by omega
  have l2 : ¬ 256 < n := by omega
  clear a5
  go_enter Try.func9, Try.ntmps9
  go_wp2_with fail
  refine (frame_CheckRegion _ _ _ _ _).mono ?_
  rw [hc]
  rintro e w1 ⟨rfl, hb1⟩
  have x0 := (Bx.new W 23 #[.int .i64 x, .int .i64 y, .int .i64 w, .int .i64 h]).keep hb1
  have B1 := bcall (bnew (Below.refl _ W)) hb1
  have hs1 := hb1.size
  simp only [alloc_sz'] at hs1
  clear hb1 hc
  obtain ⟨q0, f0, l0⟩ := x0.all
  go_wp2_with fail
  all_goals (try omega)
  refine (frame_floorDiv _ _ _ hn0 (by omega) (by omega) (by omega)).mono ?_
  rintro e w2 ⟨rfl, hb2⟩
  have x2 := x0.keep hb2
  have B2 := bcall B1 hb2
  have hs2 := hb2.size
  clear x0 q0 f0 l0 hb2 B1
  obtain ⟨q0, f0, l0⟩ := x2.all
  go_wp2_with fail
  refine (frame_floorDiv _ _ _ hn0 (by omega) (by omega) (by omega)).mono ?_
  rintro e w3 ⟨rfl, hb3⟩
  have x3 := x2.keep hb3
  have B3 := bcall B2 hb3
  have hs3 := hb3.size
  clear x2 q0 f0 l0 hb3 B2
  have hsz : W.heap.size + 1 ≤ w3.heap.size := by omega
  clear hs1 hs2 hs3
  obtain ⟨q0, f0, l0⟩ := x3.all
  have my1 := Int.emod_nonneg y (show n ≠ 0 by omega)
  have my2 := Int.emod_lt_of_pos y hn0
  have mx1 := Int.emod_nonneg x (show n ≠ 0 by omega)
  have mx2 := Int.emod_lt_of_pos x hn0
  have gx := gr_first x n
  have gy := gr_first y n
  generalize hmx : x % n = mx at *
  generalize hmy : y % n = my at *
  have N0 : 0 < cnt x w n := cnt_pos x w n hn0 a1
  go_wp2_with fail
  go_loopw [7, 12] (fun v s wr => ∃ j : Nat, j ≤ cnt y h n ∧ s = .int .i64 (gr (y / n) n j) ∧ wr.ownsRow (W.heap.size + 1) 23 4 v (j * cnt x w n) (tileC x y w h n (j * cnt x w n)) ∧ Below (W.heap.size + 1) w3 wr) (fun _ s _ => (y + h + n - intOf s).toNat)
  case atStart => exact ⟨0, by omega, by rw [gy], by rw [Nat.zero_mul]; exact World.ownsRow_nil _ _ _ _, Below.refl _ _⟩
  case round =>
    obtain ⟨j, hj, rfl, hown, hbl⟩ := hrel
    have z0 := x3.below hbl (by omega)
    obtain ⟨q0, f0, l0⟩ := z0.all
    have hjl := gr_lt y h n j hn0
    have hjy := gr_low y n j hn0
    have hjs := gr_succ (y / n) n j
    by_cases hlt : j < cnt y h n
    · have hgy := hjl.2 hlt
      clear hjl
      go_wp2_with fail
      go_loopw [7, 13] (fun v s wr => ∃ i : Nat, i ≤ cnt x w n ∧ s = .int .i64 (gr (x / n) n i) ∧ wr.ownsRow (W.heap.size + 1) 23 4 v (j * cnt x w n + i) (tileC x y w h n (j * cnt x w n + i)) ∧ Below (W.heap.size + 1) w3 wr) (fun _ s _ => (x + w + n - intOf s).toNat)
      case atStart => exact ⟨0, by omega, by rw [gx], by rw [Nat.add_zero]; exact hown, hbl⟩
      case round =>
        clear hown hbl q0 f0 l0 z0
        obtain ⟨i, hi1, rfl, hown, hbl⟩ := hrel
        have z0 := x3.below hbl (by omega)
        obtain ⟨q0, f0, l0⟩ := z0.all
        have hil := gr_lt x w n i hn0
        have hix := gr_low x n i hn0
        have his := gr_succ (x / n) n i
        by_cases hlt2 : i < cnt x w n
        · have hgx := hil.2 hlt2
          have hT := tile_common x y w h n i j hn0 hlt2 hlt a1 a3
          have hN := tileNo_at x y w h n i j hlt2
          have hS := tileC_succ x y w h n (j * cnt x w n + i)
          rw [hN] at hS
          obtain ⟨t1, t2, t3, t4, hE⟩ : ∃ a b c d, tileAt x y w h n i j = (a, b, c, d) := ⟨_, _, _, _, rfl⟩
          rw [hE] at hT hS
          clear hil hE hN
          go_wp2_with fail
          refine (frame_Common_at _ _ _ _ _ _ _ _ _ _ _ _ _ hT _ (by omega) (by omega) (by omega) (by omega) (by omega) (by omega) (by omega) (by omega) (by omega) (by omega) (by omega) (by omega) (by omega) (by omega) (by omega) (by omega)).mono ?_
          rintro e w4 ⟨rfl, hb4⟩
          have z4 := z0.keep hb4
          have hown4 := ownsRow_below hown hb4
          have hsw := hbl.size
          have B4 : Below (W.heap.size + 1) w3 w4 := hbl.trans (hb4.mono (by omega))
          clear q0 f0 l0 z0 hown hb4
          obtain ⟨q0, f0, l0⟩ := z4.all
          go_wp2_with (at_builtin; refine wpList_append_own _ rfl (.tmp 80) (.tmp 82) 34 rfl (W.heap.size + 1) 23 i0 (.agg #[.int .i64 0, .int .i64 0, .int .i64 0, .int .i64 0]) 4 32 Try.underlying34 hi hz0 hz1 hz2 rfl (by decide) _ _ _ rfl ((hown4.alloc _).alloc _) ⟨w4.heap.size + 1, 0, none⟩ 1 1 [.int .i64 t1, .int .i64 t2, .int .i64 t3, .int .i64 t4] rfl rfl ?c1 ?c2 ?c3 ?c4 ?c5 ?_)
          case c1 => simpa using cells_four_new (w4.alloc (.cells #[.int .i64 t1, .int .i64 t2, .int .i64 t3, .int .i64 t4] 23)) (.int .i64 t1) (.int .i64 t2) (.int .i64 t3) (.int .i64 t4) 23
          case c2 => intro u hu; simp at hu; rcases hu with rfl | rfl | rfl | rfl <;> rfl
          case c3 =>
            have := Nat.mul_le_mul (Nat.le_trans hj cy) cx
            unfold maxLen; omega
          case c4 =>
            have := Nat.mul_le_mul (Nat.le_trans hj cy) cx
            omega
          case c5 => have := B4.size; simp; omega
          · intro v' w5 hown5 hgrow hnil
            have hs4 := B4.size
            have B5 := (bbnew (bbnew B4 (by omega) (ob := .cells #[.int .i64 t1, .int .i64 t2, .int .i64 t3, .int .i64 t4] 23)) (by simp; omega) (ob := .cells #[.int .i64 t1, .int .i64 t2, .int .i64 t3, .int .i64 t4] 23)).grown hgrow (by simp; omega) (fun k hk => (hown4.lt k hk).1)
            have hown6 : w5.ownsRow (W.heap.size + 1) 23 4 v' (j * cnt x w n + (i + 1)) (tileC x y w h n (j * cnt x w n + (i + 1))) := by rw [← Nat.add_assoc, hS]; exact hown5
            clear hown5 hgrow hnil hS
            go_wp2_with fail
            go_roundw
            case rel => exact ⟨i + 1, by omega, by rw [his], hown6, B5⟩
            case measure => simp only [intOf]; simp; omega
        · have hin : i = cnt x w n := by omega
          subst hin
          have hgx : ¬ gr (x / n) n (cnt x w n) < x + w := fun hh => hlt2 (hil.1 hh)
          clear hil
          go_wp2_with fail
          go_roundw
          case rel => exact ⟨j + 1, by omega, by rw [hjs], by rw [Nat.add_mul, Nat.one_mul]; exact hown, hbl⟩
          case measure => simp only [intOf]; simp; omega
    · have hin : j = cnt y h n := by omega
      subst hin
      have hgy : ¬ gr (y / n) n (cnt y h n) < y + h := fun hh => hlt (hjl.1 hh)
      clear hjl
      go_wp2_with fail
      go_ret2
      refine ⟨_, rfl, ?_, B3.trans (hbl.mono (by omega))⟩
      refine ⟨hown.1, ?_⟩
      rcases hown.2 with h0 | ⟨g, cap, cur, h1, h2, h3⟩
      · exact .inl h0
      · exact .inr ⟨g, cap, cur, h1, by omega, h3⟩

end Go.Proofs.Ytccbhghpghijiaa
