/- scope.Changed and what it calls. -/
import Derived.Test.YtoffnmpnhddaiaaFit
import Derived.BigGuardPart
namespace Go.Proofs.Ytoffnmpnhddaiaa
open Go.RowKit

theorem checkRegion_of {x y w h : Int} (h1 : 1 ≤ w) (h2 : w ≤ 256) (h3 : 1 ≤ h) (h4 : h ≤ 256) (h5 : w * h ≤ 16384) (h6 : -1048576 ≤ x) (h7 : x ≤ 1048576 - w) (h8 : -1048576 ≤ y) (h9 : y ≤ 1048576 - h) : checkRegion x y w h = 0 := by
  unfold checkRegion
  rw [if_neg (by omega), if_neg (by omega), if_neg (by simp [outB]; omega)]
def checkFrame (x y w h : Int) (n : Nat) : Int := if checkRegion x y w h = 0 then (if (n : Int) = 4 * w * h then 0 else 2) else checkRegion x y w h

theorem checkRegion_ok {x y w h : Int} (h0 : checkRegion x y w h = 0) : 1 ≤ w ∧ w ≤ 256 ∧ 1 ≤ h ∧ h ≤ 256 ∧ w * h ≤ 16384 ∧ -1048576 ≤ x ∧ x ≤ 1048576 - w ∧ -1048576 ≤ y ∧ y ≤ 1048576 - h := by
  unfold checkRegion at h0
  split at h0
  · omega
  · rename_i h1
    split at h0
    · omega
    · rename_i h2
      split at h0
      · omega
      · rename_i h3
        simp [outB] at h3
        omega

theorem checkFrame_of {x y w h : Int} {n : Nat} (h0 : checkRegion x y w h = 0) (hn : (n : Int) = 4 * w * h) : checkFrame x y w h n = 0 := by simp [checkFrame, h0, hn]
theorem fitted_ok {x y w h : Int} (h1 : 1 ≤ w) (h2 : w ≤ 8) (h3 : 1 ≤ h) (h4 : h ≤ 8) (h5 : -1000 ≤ x) (h6 : x ≤ 1000) (h7 : -1000 ≤ y) (h8 : y ≤ 1000) : checkRegion x y w h = 0 := by
  have := Int.mul_le_mul h2 h4 (by omega) (by omega)
  exact checkRegion_of h1 (by omega) h3 (by omega) (by omega) (by omega) (by omega) (by omega) (by omega)
/-- As many pixels. -/
theorem four_of {w h : Int} {N : Nat} (hN : (N : Int) = 4 * w * h) : ∃ M : Nat, (M : Int) = w * h ∧ N = 4 * M := by
  rw [Int.mul_assoc] at hN
  exact ⟨(w * h).toNat, by omega, by omega⟩

set_option maxRecDepth 100000 in
theorem frame_Check (x y w h : Int) (a : Option Addr) (n c : Nat) (W : World) (_hn : n ≤ maxLen) :
    Calls Try.prog 87 #[.agg #[.int .i64 x, .int .i64 y, .int .i64 w, .int .i64 h, .slice a n c]] W fun e w' => e = .returned (.int .i64 (checkFrame x y w h n)) ∧ Below W.heap.size W w' := by
  cases hc : (checkRegion x y w h != 0)
  · have h0 : checkRegion x y w h = 0 := by simpa using hc
    obtain ⟨b1, b2, b3, b4, _⟩ := checkRegion_ok h0
    obtain ⟨N, hN, HN, hN1, hN2⟩ := mul4 w h b1 b3 b2 b4
    have HidN := Lib.hid hN
    have H0 := Lib.hid h0
    clear hN h0
    by_cases hnn : n = N
    · subst hnn
      go_enter Try.func87, Try.ntmps87
      go_wp2_with (go_at_call 32; refine (frame_CheckRegion _ _ _ _ _).mono ?_; rintro e w' ⟨rfl, hb1⟩; obtain ⟨c0, f0⟩ := bat hb1 W.heap.size (by simp))
      go_ret
      exact ⟨ret_int (by simp [checkFrame, H0.out, HidN.out]), ((Below.refl _ _).alloc (Nat.le_refl _) _).trans (hb1.mono (by simp))⟩
    · have hne : ¬ ((n : Int) = (N : Int)) := by omega
      go_enter Try.func87, Try.ntmps87
      go_wp2_with (go_at_call 32; refine (frame_CheckRegion _ _ _ _ _).mono ?_; rintro e w' ⟨rfl, hb1⟩; obtain ⟨c0, f0⟩ := bat hb1 W.heap.size (by simp))
      go_ret
      exact ⟨ret_int (by simp [checkFrame, H0.out, HidN.out, hne]), ((Below.refl _ _).alloc (Nat.le_refl _) _).trans (hb1.mono (by simp))⟩
  · go_enter Try.func87, Try.ntmps87
    go_wp2_with (go_at_call 32; refine (frame_CheckRegion _ _ _ _ _).mono ?_; rintro e w' ⟨rfl, hb1⟩; obtain ⟨c0, f0⟩ := bat hb1 W.heap.size (by simp))
    go_ret
    have h0 : ¬ checkRegion x y w h = 0 := by simpa using hc
    exact ⟨ret_int (by simp [checkFrame, h0]), ((Below.refl _ _).alloc (Nat.le_refl _) _).trans (hb1.mono (by simp))⟩

set_option maxRecDepth 100000 in
theorem scope_checkTwo (x y w h : Int) (a a2 : Option Addr) (n c n2 c2 : Nat) (W : World) (hn : n ≤ maxLen) (hn2 : n2 ≤ maxLen) (h1 : checkFrame x y w h n = 0) (h2 : checkFrame x y w h n2 = 0) :
    Calls Try.prog 82 #[.agg #[.int .i64 x, .int .i64 y, .int .i64 w, .int .i64 h, .slice a n c], .agg #[.int .i64 x, .int .i64 y, .int .i64 w, .int .i64 h, .slice a2 n2 c2]] W fun e w' =>
      e = .returned (.int .i64 0) ∧ Below W.heap.size W w' := by
  have i0 : ∀ w0, (Instr.index 164 (.agg #[.int .i64 x, .int .i64 y, .int .i64 w, .int .i64 h, .slice a n c, .int .i64 x, .int .i64 y, .int .i64 w, .int .i64 h, .slice a2 n2 c2]) (.int .i64 0)).run Try.prog w0 = .ok (.agg #[.int .i64 x, .int .i64 y, .int .i64 w, .int .i64 h, .slice a n c]) w0 := fun _ => by kernel_rfl
  have i1 : ∀ w0, (Instr.index 164 (.agg #[.int .i64 x, .int .i64 y, .int .i64 w, .int .i64 h, .slice a n c, .int .i64 x, .int .i64 y, .int .i64 w, .int .i64 h, .slice a2 n2 c2]) (.int .i64 1)).run Try.prog w0 = .ok (.agg #[.int .i64 x, .int .i64 y, .int .i64 w, .int .i64 h, .slice a2 n2 c2]) w0 := fun _ => by kernel_rfl
  have H1 := Lib.hid h1
  have H2 := Lib.hid h2
  clear h1 h2
  go_enter Try.func82, Try.ntmps82
  go_wp2_with fail
  refine wp_loop_rounds 3 ?_
  rw [rounds_succ]
  go_wp2_with (go_at_call 87; refine (frame_Check _ _ _ _ _ _ _ _ hn).mono ?_; rw [H1.out]; rintro e w' ⟨rfl, hb1⟩)
  have x0 := (((Bx.new W _ _).alloc _).alloc _).keep hb1
  have x1 := ((Bx.at (W.heap.size + 1) (by simp)).alloc _).keep hb1
  obtain ⟨q0, f0, l0⟩ := x0.all
  obtain ⟨q1, f1, l1⟩ := x1.all
  rw [rounds_succ]
  go_wp2_with (go_at_call 87; refine (frame_Check _ _ _ _ _ _ _ _ hn2).mono ?_; rw [H2.out]; rintro e w2 ⟨rfl, hb2⟩)
  have y0 := (x0.alloc _).keep hb2
  have y1 := (x1.alloc _).keep hb2
  obtain ⟨r0, g0, m0⟩ := y0.all
  obtain ⟨r1, g1, m1⟩ := y1.all
  clear q0 f0 q1 f1
  rw [rounds_succ]
  go_wp2_with fail
  go_ret
  have hs1 := hb1.size
  simp at hs1
  exact ⟨rfl, ((((Below.refl _ _).alloc (Nat.le_refl _) _).alloc (by simp) _).alloc (by simp; omega) _).trans ((hb1.mono (by simp; omega)).trans (((Below.refl _ _).alloc (by omega) _).trans (hb2.mono (by simp; omega))))⟩

/-- What Changed knows after k pixels: how many differ, and their bounds. -/
def chTo (w h : Int) (same : Nat → Bool) : Nat → Int × Int × Int × Int × Int
  | 0 => (0, w, h, 0, 0)
  | k + 1 =>
    let (m, l, t, r, b) := chTo w h same k
    if same k then (m, l, t, r, b) else (m + 1, imin l ((k : Int) % w), imin t ((k : Int) / w), imax r ((k : Int) % w + 1), imax b ((k : Int) / w + 1))
def samePix (xs ys : List Nat) (k : Nat) (c : Nat) : Bool := canon (xs.getD (4 * k + c) 0) == canon (ys.getD (4 * k + c) 0)
def sameTo (xs ys : List Nat) (k : Nat) : Nat → Bool
  | 0 => true
  | c + 1 => sameTo xs ys k c && samePix xs ys k c

def changed (x y w h : Int) (xs ys : List Nat) (M : Nat) : Value :=
  match chTo w h (fun k => sameTo xs ys k 4) M with
  | (m, l, t, r, b) => if m = 0 then .tuple #[.agg #[.int .i64 0, .int .i64 0, .int .i64 0, .int .i64 0], .int .i64 0, .int .i64 0]
    else .tuple #[.agg #[.int .i64 (x + l), .int .i64 (y + t), .int .i64 (r - l), .int .i64 (b - t)], .int .i64 m, .int .i64 0]

set_option maxRecDepth 100000 in
set_option maxHeartbeats 1000000 in
theorem scope_Changed (x y w h : Int) (b o n c b2 o2 c2 M : Nat) (xs ys : List Nat) (W : World) (hx1 : -1000000 ≤ x) (hx2 : x ≤ 1000000) (hy1 : -1000000 ≤ y) (hy2 : y ≤ 1000000) (hw1 : 1 ≤ w) (hw2 : w ≤ 256) (hh1 : 1 ≤ h) (hh2 : h ≤ 256)
    (hM : (M : Int) = w * h) (hn : n = 4 * M) (hck : checkFrame x y w h n = 0) (hxs : xs.length = n) (hys : ys.length = n) (hrd : Rd W b o xs) (hrd2 : Rd W b2 o2 ys) :
    Calls Try.prog 18 #[.agg #[.int .i64 x, .int .i64 y, .int .i64 w, .int .i64 h, .slice (some ⟨b, o, none⟩) n c], .agg #[.int .i64 x, .int .i64 y, .int .i64 w, .int .i64 h, .slice (some ⟨b2, o2, none⟩) n c2]] W fun e w' =>
      e = .returned (changed x y w h xs ys M) ∧ Below W.heap.size W w' := by
  have hMw : wrap64 (w * h) = (M : Int) := by rw [wrap_mul w h hw1 hw2 hh1 hh2, hM]
  have hMb := mul_bd w h hw1 hw2 hh1 hh2
  rw [← hM] at hMb
  obtain ⟨hM1, hM2⟩ := hMb
  have hnm : n ≤ maxLen := by unfold maxLen; omega
  have HM := Lib.hid hM
  have Hxs := Lib.hid hxs
  have Hys := Lib.hid hys
  clear hM hxs hys
  obtain ⟨q, hq⟩ : ∃ q, q = checkFrame x y w h n := ⟨_, rfl⟩
  subst hn
  go_enter Try.func18, Try.ntmps18
  go_wp2_with (go_at_call 82; refine (scope_checkTwo _ _ _ _ _ _ _ _ _ _ _ hnm hnm hck hck).mono ?_; rintro e w1 ⟨rfl, hb1⟩)
  have x0 := (((Bx.new W _ _).alloc _).alloc _).keep hb1
  have x1 := ((Bx.at (W.heap.size + 1) (by simp)).alloc _).keep hb1
  have x2 := (Bx.at (W.heap.size + 1 + 1) (by simp)).keep hb1
  have B1 := bcall (bnew (bnew (bnew (Below.refl _ W)))) hb1
  have hrd1 := hrd.keep B1
  have hrd3 := hrd2.keep B1
  clear hrd hrd2
  obtain ⟨q0, f0, l0⟩ := x0.all
  obtain ⟨q1, f1, l1⟩ := x1.all
  obtain ⟨q2, f2, l2⟩ := x2.all
  go_wp2_with fail
  go_quiet (fail)
  go_wp2_with fail
  go_loopw [8, 9, 10, 11, 12, 38] (fun s8 s9 s10 s11 s12 i wr => ∃ (k : Nat) (mm l t r bb : Int), k ≤ M ∧ i = .int .i64 k ∧ Hid (chTo w h (fun k => sameTo xs ys k 4) k = (mm, l, t, r, bb)) ∧
      0 ≤ mm ∧ mm ≤ k ∧ 0 ≤ l ∧ l ≤ w ∧ 0 ≤ t ∧ t ≤ h ∧ 0 ≤ r ∧ r ≤ w ∧ 0 ≤ bb ∧ bb ≤ h ∧
      s8 = .int .i64 mm ∧ s9 = .int .i64 l ∧ s10 = .int .i64 t ∧ s11 = .int .i64 r ∧ s12 = .int .i64 bb ∧ ∃ m, wr = w1.drewN m) (fun _ _ _ _ _ i _ => M - (intOf i).toNat)
  case atStart => exact ⟨0, 0, w, h, 0, 0, by omega, rfl, rfl, by omega, by omega, by omega, by omega, by omega, by omega, by omega, by omega, by omega, by omega, rfl, rfl, rfl, rfl, rfl, _, rfl⟩
  case round =>
    obtain ⟨k, mm, l, t, r, bb, hk, rfl, hch, j1, j2, j3, j4, j5, j6, j7, j8, j9, j10, rfl, rfl, rfl, rfl, rfl, m, rfl⟩ := hrel
    by_cases hlt : k < M
    · go_wp2_with fail
      go_loopw [14, 41] (fun s i wr => ∃ (c : Nat), c ≤ 4 ∧ i = .int .i64 c ∧ s = .bool (sameTo xs ys k c) ∧ ∃ m, wr = w1.drewN m) (fun _ i _ => 4 - (intOf i).toNat)
      case atStart => exact ⟨0, by omega, rfl, rfl, _, rfl⟩
      case round =>
        obtain ⟨c, hc, rfl, rfl, m', rfl⟩ := hrel
        by_cases hlc : c < 4
        · have hs : sameTo xs ys k (c + 1) = (sameTo xs ys k c && samePix xs ys k c) := rfl
          have Hs := Lib.hid hs
          clear hs
          have e1 := hrd1.cell (4 * k + c) (by rw [Hxs.out]; omega)
          have e2 := hrd3.cell (4 * k + c) (by rw [Hys.out]; omega)
          obtain ⟨s, hs⟩ : ∃ s, s = sameTo xs ys k c := ⟨_, rfl⟩
          rw [← hs] at Hs ⊢
          clear hs
          have z1 : (4 * (k : Int) + (c : Int)) < 4 * (M : Int) := by omega
          have z2 : 0 ≤ (4 * (k : Int) + (c : Int)) := by omega
          cases s
          · go_wp2_with fail
            go_quiet ((go_at_call 81; exact quiet_sameN (num_Bits _ _)))
            go_wp2_with fail
            go_roundw
            case rel => exact ⟨c + 1, by omega, by go_num, by rw [Hs.out]; rfl, _, rfl⟩
            case measure => simp [intOf]; omega
          · go_wp2_with fail
            go_quiet ((go_at_call 81; exact quiet_sameN (num_Bits _ _)))
            go_wp2_with fail
            go_roundw
            case rel => exact ⟨c + 1, by omega, by go_num, by rw [Hs.out, Bool.true_and]; exact congrArg Value.bool (natCast_beq _ _), _, rfl⟩
            case measure => simp [intOf]; omega
        · have hc4 : c = 4 := by omega
          subst hc4
          clear hrd1 hrd3
          have hstep : chTo w h (fun k => sameTo xs ys k 4) (k + 1) = if sameTo xs ys k 4 then (mm, l, t, r, bb) else (mm + 1, imin l ((k : Int) % w), imin t ((k : Int) / w), imax r ((k : Int) % w + 1), imax bb ((k : Int) / w + 1)) := by
            rw [chTo, hch.out]
          have Hst := Lib.hid hstep
          clear hstep
          obtain ⟨s, hs⟩ : ∃ s, s = sameTo xs ys k 4 := ⟨_, rfl⟩
          rw [← hs] at Hst ⊢
          clear hs
          cases s
          · have v1 : 0 ≤ (k : Int) % w := Int.emod_nonneg _ (by omega)
            have v2 : (k : Int) % w < w := Int.emod_lt_of_pos _ (by omega)
            have v3 : 0 ≤ (k : Int) / w := Int.ediv_nonneg (by omega) (by omega)
            have v4 : (k : Int) / w < h := by
              refine Int.ediv_lt_of_lt_mul (by omega) ?_
              rw [Int.mul_comm, ← HM.out]; omega
            go_wp2_with fail
            go_quiet (fail)
            go_wp2_with fail
            go_roundw
            case rel =>
              have u1 := imin_spec l ((k : Int) % w)
              have u2 := imin_spec t ((k : Int) / w)
              have u3 := imax_spec r ((k : Int) % w + 1)
              have u4 := imax_spec bb ((k : Int) / w + 1)
              exact ⟨k + 1, _, _, _, _, _, by omega, by go_num, Hst.out, by omega, by omega, by omega, by omega, by omega, by omega, by omega, by omega, by omega, by omega, rfl, rfl, rfl, rfl, rfl, _, rfl⟩
            case measure => simp [intOf]; omega
          · go_wp2_with fail
            go_roundw
            case rel => exact ⟨k + 1, _, _, _, _, _, by omega, by go_num, Hst.out, by omega, by omega, by omega, by omega, by omega, by omega, by omega, by omega, by omega, by omega, rfl, rfl, rfl, rfl, rfl, _, rfl⟩
            case measure => simp [intOf]; omega
    · have hkM : k = M := by omega
      subst hkM
      have hfin : changed x y w h xs ys k = if mm = 0 then .tuple #[.agg #[.int .i64 0, .int .i64 0, .int .i64 0, .int .i64 0], .int .i64 0, .int .i64 0] else .tuple #[.agg #[.int .i64 (x + l), .int .i64 (y + t), .int .i64 (r - l), .int .i64 (bb - t)], .int .i64 mm, .int .i64 0] := by
        unfold changed; rw [hch.out]
      have Hf := Lib.hid hfin
      clear hfin hrd1 hrd3
      by_cases hm0 : mm = 0
      · subst hm0
        go_wp2_with fail
        refine bodyPost_ret (v := .tuple #[.agg #[.int .i64 0, .int .i64 0, .int .i64 0, .int .i64 0], .int .i64 0, .int .i64 0]) (by simp [results, Try.results18, go_sem, q2]) rfl ⟨by rw [Hf.out]; simp, ?_⟩
        repeat (refine bput (by omega) ?_)
        exact bdrew B1
      · go_wp2_with fail
        refine bodyPost_ret (v := .tuple #[.agg #[.int .i64 (x + l), .int .i64 (y + t), .int .i64 (r - l), .int .i64 (bb - t)], .int .i64 mm, .int .i64 0]) (by simp [results, Try.results18, go_sem, q2]) rfl ⟨by rw [Hf.out, if_neg hm0], ?_⟩
        repeat (refine bput (by omega) ?_)
        exact bdrew B1
end Go.Proofs.Ytoffnmpnhddaiaa
