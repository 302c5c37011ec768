/- Regions: the common part, inside, whole division. -/
import Derived.Test.YtccbhghpghijiaaReg
import Derived.Test.YtccbhghpghijiaaPix
namespace Go.Proofs.Ytccbhghpghijiaa
open Go.RowKit

/-- The common part of two regions. -/
def commonOf (ax ay aw ah bx b_y bw bh : Int) : (Int × Int × Int × Int) × Bool :=
  if imin (ax + aw) (bx + bw) - imax ax bx < 1 ∨ imin (ay + ah) (b_y + bh) - imax ay b_y < 1 then (rg0, false)
  else ((imax ax bx, imax ay b_y, imin (ax + aw) (bx + bw) - imax ax bx, imin (ay + ah) (b_y + bh) - imax ay b_y), true)

set_option maxRecDepth 100000 in
set_option maxHeartbeats 1000000 in
theorem frame_Common (ax ay aw ah bx b_y bw bh : Int) (W : World) (a1 : -4000000 ≤ ax) (a2 : ax ≤ 4000000) (a3 : -4000000 ≤ ay) (a4 : ay ≤ 4000000) (a5 : 0 ≤ aw) (a6 : aw ≤ 4000) (a7 : 0 ≤ ah) (a8 : ah ≤ 4000)
    (b1 : -4000000 ≤ bx) (b2 : bx ≤ 4000000) (b3 : -4000000 ≤ b_y) (b4 : b_y ≤ 4000000) (b5 : 0 ≤ bw) (b6 : bw ≤ 4000) (b7 : 0 ≤ bh) (b8 : bh ≤ 4000) :
    Calls Try.prog 27 #[.agg #[.int .i64 ax, .int .i64 ay, .int .i64 aw, .int .i64 ah], .agg #[.int .i64 bx, .int .i64 b_y, .int .i64 bw, .int .i64 bh]] W fun e w' =>
      e = .returned (.tuple #[rgV (commonOf ax ay aw ah bx b_y bw bh).1, .bool (commonOf ax ay aw ah bx b_y bw bh).2]) ∧ Below W.heap.size W w' := by
  have m1 := imax_spec ax bx
  have m2 := imax_spec ay b_y
  have m3 := imin_spec (ax + aw) (bx + bw)
  have m4 := imin_spec (ay + ah) (b_y + bh)
  have hm1 : -4000000 ≤ imax ax bx ∧ imax ax bx ≤ 4000000 := by omega
  have hm2 : -4000000 ≤ imax ay b_y ∧ imax ay b_y ≤ 4000000 := by omega
  have hm3 : -4000000 ≤ imin (ax + aw) (bx + bw) ∧ imin (ax + aw) (bx + bw) ≤ 4004000 := by omega
  have hm4 : -4000000 ≤ imin (ay + ah) (b_y + bh) ∧ imin (ay + ah) (b_y + bh) ≤ 4004000 := by omega
  obtain ⟨c1, c2⟩ := hm1
  obtain ⟨c3, c4⟩ := hm2
  obtain ⟨c5, c6⟩ := hm3
  obtain ⟨c7, c8⟩ := hm4
  clear m1 m2 m3 m4
  go_enter Try.func27, Try.ntmps27
  go_wp2_with fail
  go_region
  all_goals go_wp2_with fail
  all_goals first
    | (have hv : commonOf ax ay aw ah bx b_y bw bh = (rg0, false) := by unfold commonOf; rw [if_pos (by omega)]
       rw [hv]
       exact bodyPost_ret (v := .tuple #[rgV rg0, .bool false]) (by simp [results, Try.results27, go_sem, rgV, rg0]) rfl ⟨rfl, (bnew (bnew (bnew (bnew (Below.refl _ W))))).drew⟩)
    | (have hv : commonOf ax ay aw ah bx b_y bw bh = ((imax ax bx, imax ay b_y, imin (ax + aw) (bx + bw) - imax ax bx, imin (ay + ah) (b_y + bh) - imax ay b_y), true) := by unfold commonOf; rw [if_neg (by omega)]
       rw [hv]
       exact bodyPost_ret (v := .tuple #[rgV (imax ax bx, imax ay b_y, imin (ax + aw) (bx + bw) - imax ax bx, imin (ay + ah) (b_y + bh) - imax ay b_y), .bool true]) (by simp [results, Try.results27, go_sem, rgV]) rfl ⟨rfl, (bnew (bnew (bnew (bnew (Below.refl _ W))))).drew⟩)

set_option maxHeartbeats 400000 in
theorem frame_Inside (ax ay aw ah bx b_y bw bh : Int) (W : World) (h1 : -10000000 ≤ bx) (h2 : bx ≤ 10000000) (h3 : -10000000 ≤ b_y) (h4 : b_y ≤ 10000000) (h5 : 0 ≤ bw) (h6 : bw ≤ 1000) (h7 : 0 ≤ bh) (h8 : bh ≤ 1000) (h9 : 0 ≤ aw) (h10 : aw ≤ 1000) (h11 : 0 ≤ ah) (h12 : ah ≤ 1000) (g1 : -10000000 ≤ ax) (g2 : ax ≤ 10000000) (g3 : -10000000 ≤ ay) (g4 : ay ≤ 10000000) :
    Calls Try.prog 17 #[.agg #[.int .i64 ax, .int .i64 ay, .int .i64 aw, .int .i64 ah], .agg #[.int .i64 bx, .int .i64 b_y, .int .i64 bw, .int .i64 bh]] W fun e w' =>
      e = .returned (.bool (inB ax ay aw ah bx b_y bw bh)) ∧ Below W.heap.size W w' := by
  go_enter Try.func17, Try.ntmps17
  go_wp2_with fail
  all_goals go_ret
  all_goals refine ⟨ret_bool ?_, bnew (bnew (Below.refl _ W))⟩
  all_goals (unfold inB; rw [Bool.eq_iff_iff]; simp; omega)

theorem floor_of (a n : Int) (hn : 0 < n) : (a.tmod n < 0 → a / n = a.tdiv n - 1 ∧ a % n = a.tmod n + n) ∧ (0 ≤ a.tmod n → a / n = a.tdiv n ∧ a % n = a.tmod n) := by
  have e := Int.mul_tdiv_add_tmod a n
  have h1 := Int.tmod_lt_of_pos a hn
  have h2 := Int.lt_tmod_of_pos a hn
  refine ⟨fun h => (Int.ediv_emod_unique hn).2 ⟨?_, by omega, by omega⟩, fun h => (Int.ediv_emod_unique hn).2 ⟨by omega, h, h1⟩⟩
  rw [Int.mul_sub, Int.mul_one]
  omega

set_option maxHeartbeats 400000 in
theorem frame_floorDiv (a n : Int) (W : World) (hn : 0 < n) (h1 : -1000000000 ≤ a) (h2 : a ≤ 1000000000) (hn2 : n ≤ 1000000000) :
    Calls Try.prog 26 #[.int .i64 a, .int .i64 n] W fun e w' => e = .returned (.tuple #[.int .i64 (a / n), .int .i64 (a % n)]) ∧ Below W.heap.size W w' := by
  have hq0 := Int.natAbs_tdiv_le_natAbs a n
  have hr1 := Int.tmod_lt_of_pos a hn
  have hr2 := Int.lt_tmod_of_pos a hn
  have hd := floor_of a n hn
  obtain ⟨p1, p2⟩ : -1000000000 ≤ a.tdiv n ∧ a.tdiv n ≤ 1000000000 := by omega
  clear hq0
  by_cases hr0 : a.tmod n < 0
  · obtain ⟨e1, e2⟩ := hd.1 hr0
    rw [e1, e2]
    clear hd e1 e2
    go_enter Try.func26, Try.ntmps26
    go_wp2_with fail
    go_region
    all_goals go_wp2_with fail
    all_goals go_ret2
    all_goals exact ⟨rfl, (Below.refl _ W).drew⟩
  · obtain ⟨e1, e2⟩ := hd.2 (by omega)
    rw [e1, e2]
    clear hd e1 e2
    go_enter Try.func26, Try.ntmps26
    go_wp2_with fail
    go_region
    all_goals go_wp2_with fail
    all_goals go_ret2
    all_goals exact ⟨rfl, (Below.refl _ W).drew⟩

end Go.Proofs.Ytccbhghpghijiaa
