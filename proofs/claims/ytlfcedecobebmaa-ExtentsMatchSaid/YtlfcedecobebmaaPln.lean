/- The singles of a channel: frame.Plane and the reference's. -/
import Derived.Test.YtlfcedecobebmaaChg
import Derived.Test.YtlfcedecobebmaaRel
import Derived.OwnWalk
namespace Go.Proofs.Ytlfcedecobebmaa
open Go.RowKit

/-- The singles of a channel. -/
def planeL (xs : List Nat) (M ch : Nat) : List Nat := (List.range M).map fun i => canon (xs.getD (4 * i + ch) 0)
theorem planeL_len (xs : List Nat) (M ch : Nat) : (planeL xs M ch).length = M := by simp [planeL]

set_option maxRecDepth 100000 in
set_option maxHeartbeats 1000000 in
theorem frame_Plane (x y w h : Int) (b o n c M ch : Nat) (xs : List Nat) (W : World) (hck : checkFrame x y w h n = 0) (hM : (M : Int) = w * h) (hM2 : M ≤ 65536) (hn : n = 4 * M) (hch : ch < 4) (hxs : xs.length = n) (hrd : Rd W b o xs)
    (hw1 : 1 ≤ w) (hw2 : w ≤ 256) (hh1 : 1 ≤ h) (hh2 : h ≤ 256) :
    Calls Try.prog 35 #[.agg #[.int .i64 x, .int .i64 y, .int .i64 w, .int .i64 h, .slice (some ⟨b, o, none⟩) n c], .int .i64 (ch : Int)] W fun e w' =>
      ∃ g, e = .returned (.tuple #[.slice (some ⟨g, 0, none⟩) M M, .int .i64 0]) ∧ W.heap.size ≤ g ∧ Row w' g M (planeL xs M ch) ∧ Below W.heap.size W w' := by
  have hMw : wrap64 (w * h) = (M : Int) := by rw [wrap_mul w h hw1 hw2 hh1 hh2, hM]
  have HM := Lib.hid hM
  have Hxs := Lib.hid hxs
  have hnm : n ≤ maxLen := by unfold maxLen; omega
  have hc0 : ¬ ((ch : Int) < 0) := by omega
  have hc3 : ¬ (3 < (ch : Int)) := by omega
  have hmk := fun w => run_makeF w M (by omega)
  have hb := hrd.lt
  subst hn
  clear hM hxs
  go_enter Try.func35, Try.ntmps35
  go_wp2_with fail
  refine (frame_Check _ _ _ _ _ _ _ _ hnm).mono ?_
  rw [hck]
  rintro e w1 ⟨rfl, hb1⟩
  have x0 := (Bx.new W _ _).keep hb1
  have B1 := bcall (bnew (Below.refl _ W)) hb1
  have hrd1 := hrd.keep B1
  obtain ⟨q0, f0, l0⟩ := x0.all
  go_wp2_with fail
  refine name_alloc ?_
  intro wb hwb
  rw [← hwb] at x0 B1 hrd1 l0 ⊢
  clear hwb q0 f0 hb1 hrd hck hmk
  have hbb := hrd1.lt
  generalize hgz : wb.heap.size = gz at *
  go_loopw [30] (fun i wr => ∃ k : Nat, k ≤ M ∧ i = .int .i64 k ∧ Row wr gz M (fillTo M k fun i => canon (xs.getD (4 * i + ch) 0)) ∧ Below gz wb wr) (fun i _ => M - (intOf i).toNat)
  case atStart =>
    have h := Row.made wb M
    rw [hgz] at h
    exact ⟨0, by omega, rfl, by rw [fillTo_zero]; exact h, by rw [← hgz]; exact (Below.refl _ _).alloc (Nat.le_refl _) _⟩
  case round =>
    obtain ⟨k, hk, rfl, hrow, hbl⟩ := hrel
    by_cases hlt : k < M
    · have z0 := x0.below hbl l0
      obtain ⟨q0, f0, m0⟩ := z0.all
      have hc : wr.cell? ⟨b, o + (4 * k + ch), none⟩ = _ := (hrd1.below hbl hbb).cell (4 * k + ch) (by rw [Hxs.out]; omega)
      have hrc := hrow.cell k hlt
      have hrf := hrow.frozen k
      have hki : (k : Int) < (M : Int) := by omega
      have z1 : (4 * (k : Int) + (ch : Int)) < 4 * (M : Int) := by omega
      go_wp2_with (go_at_call 24; refine (num_Clean _ _).mono ?_; rintro e w' ⟨rfl, rfl⟩)
      go_roundw
      case rel =>
        refine ⟨k + 1, by omega, by go_num, ?_, Below.set' (Nat.le_refl _) hbl⟩
        have h1 := hrow.store k (canon (xs.getD (4 * k + ch) 0))
        rw [fillTo_set M k (fun i => canon (xs.getD (4 * i + ch) 0)) hlt] at h1
        simpa using h1
      case measure => simp [intOf]; omega
    · have hkM : k = M := by omega
      subst hkM
      go_wp2_with fail
      go_ret2
      have hg1 := B1.size
      rw [hgz] at hg1
      refine ⟨gz, rfl, hg1, ?_, B1.trans (hbl.mono hg1)⟩
      rw [fillTo_full] at hrow
      exact hrow

/-- A slice of singles that the call itself grows. -/
def Ow (w : World) (B : Nat) (v : Value) (xs : List Nat) : Prop := w.ownsRow B 29 1 v xs.length (xs.map (Value.float .f32))
theorem Ow.rd {w : World} {B : Nat} {v : Value} {xs : List Nat} (h : Ow w B v xs) (hne : xs ≠ []) : ∃ g c, v = .slice (some ⟨g, 0, none⟩) xs.length c ∧ xs.length ≤ c ∧ B ≤ g ∧ Rd w g 0 xs := by
  rcases h.2 with ⟨_, h0⟩ | ⟨g, cap, cur, rfl, hb, hg, hnc, hcm, hcs, htake⟩
  · exact absurd (List.length_eq_zero_iff.1 h0) hne
  · refine ⟨g, cap, rfl, hnc, hb, (Array.getElem?_eq_some_iff.1 hg).1, fun k hk => ?_⟩
    rw [Nat.zero_add, cell_of_row w g k cur _ (0, 0) hg]
    have h1 : (cur.toList.take (xs.length * 1))[k]? = (xs.map (Value.float .f32))[k]? := by rw [htake]
    rw [List.getElem?_take, if_pos (by omega)] at h1
    simpa [hk] using h1

set_option maxRecDepth 100000 in
set_option maxHeartbeats 1000000 in
theorem ref_Plane (x y w h : Int) (b o n c M ch : Nat) (xs : List Nat) (W : World) (hM2 : M ≤ 65536) (hn : n = 4 * M) (hch : ch < 4) (hxs : xs.length = n) (hrd : Rd W b o xs) :
    Calls Try.prog 45 #[.agg #[.int .i64 x, .int .i64 y, .int .i64 w, .int .i64 h, .slice (some ⟨b, o, none⟩) n c], .int .i64 (ch : Int)] W fun e w' =>
      ∃ v, e = .returned v ∧ Ow w' W.heap.size v (planeL xs M ch) ∧ Below W.heap.size W w' := by
  obtain ⟨i0, hi, hz0, hz1, hz2⟩ := info_parts infoF
  have Hxs := Lib.hid hxs
  have hbb := hrd.lt
  subst hn
  clear hxs
  go_enter Try.func45, Try.ntmps45
  go_wp2_with fail
  have x0 := Bx.new W 26 #[.int .i64 x, .int .i64 y, .int .i64 w, .int .i64 h, .slice (some ⟨b, o, none⟩) (4 * M) c]
  have B1 := bnew (ob := .cells #[.int .i64 x, .int .i64 y, .int .i64 w, .int .i64 h, .slice (some ⟨b, o, none⟩) (4 * M) c] 26) (Below.refl _ W)
  have hrd1 := hrd.alloc (.cells #[.int .i64 x, .int .i64 y, .int .i64 w, .int .i64 h, .slice (some ⟨b, o, none⟩) (4 * M) c] 26)
  have hs1 : (W.alloc (.cells #[.int .i64 x, .int .i64 y, .int .i64 w, .int .i64 h, .slice (some ⟨b, o, none⟩) (4 * M) c] 26)).heap.size = W.heap.size + 1 := by simp
  refine name_world ?_
  intro wb hwb
  rw [← hwb] at x0 B1 hrd1 hs1
  clear hwb hrd
  have l0 : W.heap.size < W.heap.size + 1 := by omega
  have hb1 : b < W.heap.size + 1 := by omega
  go_loopw [5, 6] (fun v i wr => ∃ k : Nat, k ≤ M ∧ i = .int .i64 (ch + 4 * k : Nat) ∧ wr.ownsRow (W.heap.size + 1) 29 1 v k (((List.range k).map fun i => canon (xs.getD (4 * i + ch) 0)).map (Value.float .f32)) ∧ Below (W.heap.size + 1) wb wr) (fun _ i _ => 4 * M + 4 - (intOf i).toNat)
  case atStart => exact ⟨0, by omega, by simp, World.ownsRow_nil _ _ _ _, Below.refl _ _⟩
  case round =>
    obtain ⟨k, hk, rfl, hown, hbl⟩ := hrel
    have z0 := x0.below hbl l0
    obtain ⟨q0, f0, m0⟩ := z0.all
    by_cases hlt : k < M
    · have hc : wr.cell? ⟨b, o + (ch + 4 * k), none⟩ = _ := (hrd1.below hbl hb1).cell (ch + 4 * k) (by rw [Hxs.out]; omega)
      have hki : ((ch + 4 * k : Nat) : Int) < 4 * (M : Int) := by omega
      have hk0 : ((ch + 4 * k : Nat) : Int) ≥ 0 := by omega
      go_wp2_with (first
        | (go_at_call 46; refine (ref_Fix _ _).mono ?_; rintro e w' ⟨rfl, rfl⟩)
        | (at_builtin; refine wpList_append_own _ rfl (.tmp 15) (.tmp 22) 24 rfl (W.heap.size + 1) 29 i0 (.float .f32 0) 1 4 Try.underlying24 hi hz0 hz1 hz2 rfl (by decide) _ _ _ rfl (hown.alloc _) ⟨wr.heap.size, 0, none⟩ 1 1 [.float .f32 (canon (xs.getD (ch + 4 * k) 0))] rfl rfl ?c1 ?c2 ?c3 ?c4 ?c5 ?_))
      case c1 => simpa using cell_one_new wr (.float .f32 (canon (xs.getD (ch + 4 * k) 0))) 29
      case c2 => intro u hu; simp at hu; subst hu; rfl
      case c3 => unfold maxLen; omega
      case c4 => omega
      case c5 => have := hbl.size; rw [hs1] at this; simp; omega
      · intro v' w1 hown' hgrow hnil
        have hw0 := hbl.size
        rw [hs1] at hw0
        go_wp2_with fail
        go_roundw
        case rel =>
          refine ⟨k + 1, by omega, by go_num, ?_, (hbl.alloc (by omega) _).grown hgrow (by simp; omega) (fun j hj => ?_)⟩
          · have he : ((List.range (k + 1)).map fun i => canon (xs.getD (4 * i + ch) 0)).map (Value.float .f32) = ((List.range k).map fun i => canon (xs.getD (4 * i + ch) 0)).map (Value.float .f32) ++ [.float .f32 (canon (xs.getD (ch + 4 * k) 0))] := by
              rw [List.range_succ, List.map_append, List.map_append]
              simp [Nat.add_comm]
            rw [he]
            simpa using hown'
          · rcases hown.2 with ⟨rfl, _⟩ | ⟨g, cap, cur, rfl, hb, _⟩
            · simp [Value.ownBlock] at hj
            · simp [Value.ownBlock] at hj
              omega
        case measure => simp [intOf]; omega
    · have hkM : k = M := by omega
      subst hkM
      have hki : ¬ ((ch + 4 * k : Nat) : Int) < 4 * (k : Int) := by omega
      go_wp2_with fail
      go_ret
      refine ⟨_, rfl, ?_, B1.trans (hbl.mono (by omega))⟩
      unfold Ow
      rw [planeL_len]
      rcases hown with ⟨ha, hb⟩
      refine ⟨by rw [List.length_map, planeL_len, Nat.mul_one], ?_⟩
      rcases hb with h | ⟨g, cap, cur, h1, h2, h3⟩
      · exact .inl h
      · exact .inr ⟨g, cap, cur, h1, by omega, h3⟩
end Go.Proofs.Ytlfcedecobebmaa
