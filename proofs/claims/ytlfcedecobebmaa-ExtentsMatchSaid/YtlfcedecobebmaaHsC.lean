/- scope.values of a right frame. -/
import Derived.Test.YtlfcedecobebmaaFrP
import Derived.Test.YtlfcedecobebmaaCol1
namespace Go.Proofs.Ytlfcedecobebmaa
open Go.RowKit

/-- The luma of pixel m. -/
def lumM (xs : List Nat) (m : Nat) : Nat := lumaV 1046066128 1060575065 1033100696 fun k => xs.getD (4 * m + k) 0
def valM (xs : List Nat) (ch m : Nat) : Nat := if ch = 4 then lumM xs m else canon (xs.getD (4 * m + ch) 0)
def valsL (xs : List Nat) (ch M : Nat) : List Nat := (List.range M).map (valM xs ch)
theorem valsL_len (xs : List Nat) (ch M : Nat) : (valsL xs ch M).length = M := by simp [valsL]
theorem valsL_pl (xs : List Nat) (ch M : Nat) (h : ch < 4) : valsL xs ch M = planeL xs M ch := by
  unfold valsL planeL
  apply List.map_congr_left
  intro i _
  unfold valM
  rw [if_neg (by omega)]

theorem scope_weights (W : World) : Calls Try.prog 37 #[] W fun e w' => e = .returned (.agg #[.float .f32 1046066128, .float .f32 1060575065, .float .f32 1033100696]) ∧ Below W.heap.size W w' := by
  go_enter Try.func37, Try.ntmps37
  go_wp2_with fail
  refine bodyPost_ret (v := .agg #[.float .f32 1046066128, .float .f32 1060575065, .float .f32 1033100696]) (by simp [results, Try.results37, go_sem]) rfl ⟨rfl, ?_⟩
  repeat (refine bput (Nat.le_refl _) ?_)
  exact bnew (Below.refl _ W)

set_option maxRecDepth 100000 in
set_option maxHeartbeats 2000000 in
theorem scope_values_bad (x y w h ch : Int) (b o n c : Nat) (W : World) (hck : checkFrame x y w h n = 0) (hnm : n ≤ maxLen) (hch : ch < 0 ∨ 4 < ch) :
    Calls Try.prog 15 #[.agg #[.int .i64 x, .int .i64 y, .int .i64 w, .int .i64 h, .slice (some ⟨b, o, none⟩) n c], .int .i64 ch] W fun e w' =>
      e = .returned (.tuple #[.slice none 0 0, .int .i64 3]) ∧ Below W.heap.size W w' := by
  have h4 : (ch == 4) = false := by simp; omega
  go_enter Try.func15, Try.ntmps15
  go_wp2_with fail
  refine (frame_Plane_bad x y w h ch b o n c _ hck hnm (by omega)).mono ?_
  rintro e w1 ⟨rfl, hb1⟩
  have B1 := bcall (bnew (Below.refl _ W)) hb1
  go_wp2_with fail
  go_ret2
  exact ⟨rfl, B1⟩

set_option maxRecDepth 100000 in
set_option maxHeartbeats 2000000 in
theorem scope_values_pl (x y w h : Int) (b o n c M ch : Nat) (xs : List Nat) (W : World) (hck : checkFrame x y w h n = 0) (hM : (M : Int) = w * h) (hM2 : M ≤ 65536) (hn : n = 4 * M) (hch : ch < 4) (hxs : xs.length = n) (hrd : Rd W b o xs)
    (hw1 : 1 ≤ w) (hw2 : w ≤ 256) (hh1 : 1 ≤ h) (hh2 : h ≤ 256) :
    Calls Try.prog 15 #[.agg #[.int .i64 x, .int .i64 y, .int .i64 w, .int .i64 h, .slice (some ⟨b, o, none⟩) n c], .int .i64 (ch : Int)] W fun e w' =>
      ∃ g, e = .returned (.tuple #[.slice (some ⟨g, 0, none⟩) M M, .int .i64 0]) ∧ W.heap.size ≤ g ∧ Row w' g M (valsL xs ch M) ∧ Below W.heap.size W w' := by
  have h4 : (((ch : Nat) : Int) == 4) = false := by simp; omega
  have Hh := Lib.hid (And.intro hM (And.intro hn hxs))
  clear hM hn hxs
  go_enter Try.func15, Try.ntmps15
  go_wp2_with fail
  refine (frame_Plane x y w h b o n c M ch xs _ hck Hh.out.1 hM2 Hh.out.2.1 hch Hh.out.2.2 (hrd.keep (bnew (Below.refl _ W))) hw1 hw2 hh1 hh2).mono ?_
  rintro e w1 ⟨g, rfl, hg, hrow, hb1⟩
  have B1 := bcall (bnew (Below.refl _ W)) hb1
  go_wp2_with fail
  go_ret2
  refine ⟨g, rfl, ?_, ?_, B1⟩
  · have : (W.alloc (.cells #[.int .i64 x, .int .i64 y, .int .i64 w, .int .i64 h, .slice (some ⟨b, o, none⟩) n c] 26)).heap.size = W.heap.size + 1 := by simp
    omega
  · rw [valsL_pl _ _ _ hch]; exact hrow

set_option maxRecDepth 100000 in
set_option maxHeartbeats 2000000 in
theorem scope_values_lu (x y w h : Int) (b o n c M : Nat) (xs : List Nat) (W : World) (hck : checkFrame x y w h n = 0) (hM : (M : Int) = w * h) (hM2 : M ≤ 65536) (hn : n = 4 * M) (hxs : xs.length = n) (hrd : Rd W b o xs)
    (hw1 : 1 ≤ w) (hw2 : w ≤ 256) (hh1 : 1 ≤ h) (hh2 : h ≤ 256) (hnc : n ≤ c) :
    Calls Try.prog 15 #[.agg #[.int .i64 x, .int .i64 y, .int .i64 w, .int .i64 h, .slice (some ⟨b, o, none⟩) n c], .int .i64 4] W fun e w' =>
      ∃ g, e = .returned (.tuple #[.slice (some ⟨g, 0, none⟩) M M, .int .i64 0]) ∧ W.heap.size ≤ g ∧ Row w' g M (valsL xs 4 M) ∧ Below W.heap.size W w' := by
  have hMw : wrap64 (w * h) = (M : Int) := by rw [wrap_mul w h hw1 hw2 hh1 hh2, hM]
  have HM := Lib.hid hM
  have Hxs := Lib.hid hxs
  have hnm : n ≤ maxLen := by unfold maxLen; omega
  have hmk := fun w => run_makeF w M (by omega)
  have hv : valsL xs 4 M = (List.range M).map fun i => lumM xs i := rfl
  have Hv := Lib.hid hv
  have hb := hrd.lt
  subst hn
  clear hM hxs hv
  go_enter Try.func15, Try.ntmps15
  go_wp2_with fail
  refine (frame_Check _ _ _ _ _ _ _ _ hnm).mono ?_
  rw [hck]
  rintro e w1 ⟨rfl, hb1⟩
  have x0 := (Bx.new W _ _).keep hb1
  have B1 := bcall (bnew (Below.refl _ W)) hb1
  have hrd1 := hrd.keep B1
  obtain ⟨q0, f0, l0⟩ := x0.all
  go_wp2_with fail
  refine name_alloc ?_
  intro wb hwb
  rw [← hwb] at x0 B1 hrd1 l0 ⊢
  clear hwb q0 f0 hb1 hrd hck hmk
  have hbb := hrd1.lt
  have hs1 := B1.size
  generalize hgz : wb.heap.size = gz at *
  go_loopw [31] (fun i wr => ∃ k : Nat, k ≤ M ∧ i = .int .i64 k ∧ Row wr gz M (fillTo M k fun i => lumM xs i) ∧ Below gz wb wr) (fun i _ => M - (intOf i).toNat)
  case atStart =>
    have h := Row.made wb M
    rw [hgz] at h
    exact ⟨0, by omega, rfl, by rw [fillTo_zero]; exact h, by rw [← hgz]; exact (Below.refl _ _).alloc (Nat.le_refl _) _⟩
  case round =>
    obtain ⟨k, hk, rfl, hrow, hbl⟩ := hrel
    by_cases hlt : k < M
    · have z0 := x0.below hbl l0
      obtain ⟨q0, f0, m0⟩ := z0.all
      have hrd2 := hrd1.below hbl hbb
      have e3 := Hxs.out
      have c0 : wr.cell? ⟨b, o + 4 * k, none⟩ = some (.float .f32 (xs.getD (4 * k) 0)) := hrd2.cell (4 * k) (by rw [e3]; omega)
      have c1 : wr.cell? ⟨b, o + 4 * k + 1, none⟩ = some (.float .f32 (xs.getD (4 * k + 1) 0)) := by rw [Nat.add_assoc]; exact hrd2.cell (4 * k + 1) (by rw [e3]; omega)
      have c2 : wr.cell? ⟨b, o + 4 * k + 2, none⟩ = some (.float .f32 (xs.getD (4 * k + 2) 0)) := by rw [Nat.add_assoc]; exact hrd2.cell (4 * k + 2) (by rw [e3]; omega)
      have c3 : wr.cell? ⟨b, o + 4 * k + 3, none⟩ = some (.float .f32 (xs.getD (4 * k + 3) 0)) := by rw [Nat.add_assoc]; exact hrd2.cell (4 * k + 3) (by rw [e3]; omega)
      have hlm : ∀ u : World, Calls Try.prog 36 #[.agg #[.float .f32 1046066128, .float .f32 1060575065, .float .f32 1033100696], .agg #[.float .f32 (xs.getD (4 * k) 0), .float .f32 (xs.getD (4 * k + 1) 0), .float .f32 (xs.getD (4 * k + 2) 0), .float .f32 (xs.getD (4 * k + 3) 0)]] u fun e w' => e = .returned (.float .f32 (lumM xs k)) ∧ Below u.heap.size u w' :=
        fun u => colour_Luma _ _ _ (fun j => xs.getD (4 * k + j) 0) u
      have hset := fillTo_set M k (fun i => lumM xs i) hlt
      generalize lumM xs k = lu at hlm hset
      generalize xs.getD (4 * k) 0 = v0 at hlm c0
      generalize xs.getD (4 * k + 1) 0 = v1 at hlm c1
      generalize xs.getD (4 * k + 2) 0 = v2 at hlm c2
      generalize xs.getD (4 * k + 3) 0 = v3 at hlm c3
      have Hlm := Lib.hid hlm
      have Hset := Lib.hid hset
      have hki : (k : Int) < (M : Int) := by omega
      have hkc : 4 * k + 4 ≤ c := by omega
      have hrl := hrow.lt
      have hrsz := hbl.size
      have hbw : b < wr.heap.size := hrd2.lt
      clear hlm hset e3 hrd2 z0
      go_upto_region 10 with fail
      refine wp_region_tail (fun z : BW wr.heap.size wr => z.w) 15 (by kernel_rfl) (by kernel_rfl) (BW.start _ _) rfl ?_
      simp only [List.take_succ_cons, List.take_zero, List.drop_succ_cons, List.drop_zero]
      repeat (go_big_quiet_step (first
        | (go_at_call 37; exact BW.call (Nat.le_refl _) _ (scope_weights _))
        | (go_at_call 36; exact BW.call (Nat.le_refl _) _ (Hlm.out _))))
      refine wpQuiet_nil ?_
      intro z
      have row2 := hrow.keep z.below
      have hrc := row2.cell k hlt
      have hrf := row2.frozen k
      have hbz := z.below.mono hrsz
      have hbl2 : Below gz wb z.w := hbl.trans (z.below.mono (by omega))
      go_wp2_with fail
      go_roundw
      case rel =>
        refine ⟨k + 1, by omega, by go_num, ?_, Below.set' (Nat.le_refl _) hbl2⟩
        have h1 := row2.store k lu
        rw [Hset.out] at h1
        simpa using h1
      case measure => simp [intOf]; omega
    · have hkM : k = M := by omega
      subst hkM
      go_wp2_with fail
      go_ret2
      refine ⟨gz, rfl, ?_, ?_, B1.trans (hbl.mono (by omega))⟩
      · omega
      · rw [Hv.out]
        have := hrow
        rw [fillTo_full] at this
        exact this
end Go.Proofs.Ytlfcedecobebmaa
