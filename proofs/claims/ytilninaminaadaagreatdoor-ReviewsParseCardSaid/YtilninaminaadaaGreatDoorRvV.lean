/- slices.Equal at replies; dyelaw1.sameNotes of notes that are the same. -/
import Derived.Test.YtilninaminaadaaGreatDoorRvU
namespace Go.Proofs.YtilninaminaadaaGreatDoor
open Go.RowKit

set_option maxRecDepth 100000 in
theorem run_eq_rep (a t : ByteArray) (w : World) : (Op.equalIn 10000 74 (.agg #[.string a, .string t]) (.agg #[.string a, .string t])).run Tryz.prog w = .ok true w := by
  unfold Op.equalIn
  simp [go_sem]
set_option maxRecDepth 100000 in
set_option maxHeartbeats 4000000 in
theorem equal_reps (va vb : Value) (L : List Rp) (W : World) (hl : L.length ≤ 1000) (ha : RowN W 74 2 va L.length (rcell L)) (hb : RowN W 74 2 vb L.length (rcell L)) :
    Calls Tryz.prog 40 #[va, vb] W fun e w' => e = .returned (.bool true) ∧ Below W.heap.size W w' := by
  obtain ⟨N, hN⟩ : ∃ N, N = L.length := ⟨_, rfl⟩
  rw [← hN] at ha hb hl
  obtain ⟨a1, c1, rfl, _⟩ := ha.form
  obtain ⟨a2, c2, rfl, _⟩ := hb.form
  have HA := Lib.hid ha
  have HB := Lib.hid hb
  have hrun := run_eq_rep
  clear hN ha hb
  go_enter Tryz.func40, Tryz.ntmps40
  go_wp2_with fail
  go_loopw [13] (fun s wr => ∃ k : Nat, k ≤ N ∧ s = .int .i64 (k : Int) ∧ Below W.heap.size W wr) (fun s _ => N - (intOf s).toNat)
  case atStart => exact ⟨0, by omega, rfl, Below.refl _ _⟩
  case round =>
    obtain ⟨k, hk, rfl, hbl⟩ := hrel
    by_cases hlt : k < N
    · obtain ⟨g1, cap1, e1, l1, _, _, hc1, _⟩ := HA.out.open (by omega)
      obtain ⟨rfl, rfl⟩ : a1 = some ⟨g1, 0, none⟩ ∧ c1 = cap1 := by cases e1; exact ⟨rfl, rfl⟩
      obtain ⟨g2, cap2, e2, l2, _, _, hc2, _⟩ := HB.out.open (by omega)
      obtain ⟨rfl, rfl⟩ : a2 = some ⟨g2, 0, none⟩ ∧ c2 = cap2 := by cases e2; exact ⟨rfl, rfl⟩
      have p1 := (hbl.cell (p := ⟨g1, k * 2, none⟩) l1).trans (hc1 k 0 hlt (by omega))
      have p2 := (hbl.cell (p := ⟨g1, k * 2 + 1, none⟩) l1).trans (hc1 k 1 hlt (by omega))
      have q1 := (hbl.cell (p := ⟨g2, k * 2, none⟩) l2).trans (hc2 k 0 hlt (by omega))
      have q2 := (hbl.cell (p := ⟨g2, k * 2 + 1, none⟩) l2).trans (hc2 k 1 hlt (by omega))
      simp only [rcell] at p1 p2 q1 q2
      generalize (rAt L k).author = x at p1 q1
      generalize (rAt L k).text = y at p2 q2
      have hki : (k : Int) < (N : Int) := by omega
      clear hc1 hc2 e1 e2
      go_wp2_with fail
      go_quiet (fail)
      go_wp2_with fail
      go_roundw
      case rel => exact ⟨k + 1, by omega, by go_num, below_drewN hbl _⟩
      case measure => simp [intOf]; omega
    · have hkN : k = N := by omega
      subst hkN
      go_wp2_with fail
      go_ret
      exact ⟨rfl, hbl⟩

set_option maxRecDepth 100000 in
set_option maxHeartbeats 8000000 in
theorem same_one (num frame : Int) (shot author text : ByteArray) (opn : Bool) (ra rb : Value) (L : List Rp) (W : World) (hl : L.length ≤ 1000) (ha : RowN W 74 2 ra L.length (rcell L)) (hb : RowN W 74 2 rb L.length (rcell L)) :
    Calls Tryz.prog 39 #[.agg #[.int .i64 num, .string shot, .int .i64 frame, .string author, .string text, .bool opn, ra], .agg #[.int .i64 num, .string shot, .int .i64 frame, .string author, .string text, .bool opn, rb]] W fun e w' => e = .returned (.bool true) ∧ Below W.heap.size W w' := by
  have K := Lib.hid (fun w h1 h2 => equal_reps ra rb L w hl h1 h2)
  have HA := Lib.hid ha
  have HB := Lib.hid hb
  obtain ⟨a1, c1, rfl, _⟩ := ha.form
  obtain ⟨a2, c2, rfl, _⟩ := hb.form
  generalize L.length = n at *
  clear ha hb
  go_enter Tryz.func39, Tryz.ntmps39
  go_upto_region 1 with fail
  refine name_world ?_
  intro w0 hw0
  have x3 : Bx w0 (W.heap.size + 1) 65 #[.int .i64 num, .string shot, .int .i64 frame, .string author, .string text, .bool opn, .slice a2 n c2] := by rw [hw0]; exact Bx.at _ (by simp)
  have x2 : Bx w0 W.heap.size 65 #[.int .i64 num, .string shot, .int .i64 frame, .string author, .string text, .bool opn, .slice a1 n c1] := by rw [hw0]; exact (Bx.new _ _ _).alloc _
  have B : Below W.heap.size W w0 := by rw [hw0]; exact bnew (bnew (Below.refl _ W))
  clear hw0
  obtain ⟨q3, f3, l3⟩ := x3.all
  obtain ⟨q2, f2, l2⟩ := x2.all
  cases opn
  all_goals
    go_wp2_with fail
    refine (K.out _ (HA.out.keep B) (HB.out.keep B)).mono ?_
    rintro e w1 ⟨rfl, hb1⟩
    go_wp2_with fail
    go_ret
    exact ⟨rfl, bcall B hb1⟩

set_option maxRecDepth 100000 in
set_option maxHeartbeats 8000000 in
theorem equal_notes (va vb : Value) (L : List (Nat × Nt)) (W : World) (hl : L.length ≤ 100000) (hr : ∀ k, k < L.length → (qAt L k).2.reps.length ≤ 1000) (ha : NtsV W va L) (hb : NtsV W vb L) :
    Calls Tryz.prog 38 #[va, vb, .func (.func 39) #[] #[]] W fun e w' => e = .returned (.bool true) ∧ Below W.heap.size W w' := by
  obtain ⟨N, hN⟩ : ∃ N, N = L.length := ⟨_, rfl⟩
  obtain ⟨rva, ha1, ha2⟩ := ha
  obtain ⟨rvb, hb1, hb2⟩ := hb
  rw [← hN] at ha1 hb1 ha2 hb2 hl hr
  obtain ⟨a1, c1, rfl, _⟩ := ha1.form
  obtain ⟨a2, c2, rfl, _⟩ := hb1.form
  have HA := Lib.hid (And.intro ha1 ha2)
  have HB := Lib.hid (And.intro hb1 hb2)
  have HR := Lib.hid hr
  clear hN ha1 ha2 hb1 hb2 hr
  go_enter Tryz.func38, Tryz.ntmps38
  go_wp2_with fail
  go_loopw [17] (fun s wr => ∃ k : Nat, k ≤ N ∧ s = .int .i64 (k : Int) ∧ Below W.heap.size W wr) (fun s _ => N - (intOf s).toNat)
  case atStart => exact ⟨0, by omega, rfl, Below.refl _ _⟩
  case round =>
    obtain ⟨k, hk, rfl, B⟩ := hrel
    by_cases hlt : k < N
    · obtain ⟨ha1, ha2⟩ := HA.out
      obtain ⟨hb1, hb2⟩ := HB.out
      obtain ⟨g1, cap1, e1, l1, _, _, hc1, _⟩ := ha1.open (by omega)
      obtain ⟨rfl, rfl⟩ : a1 = some ⟨g1, 0, none⟩ ∧ c1 = cap1 := by cases e1; exact ⟨rfl, rfl⟩
      obtain ⟨g2, cap2, e2, l2, _, _, hc2, _⟩ := hb1.open (by omega)
      obtain ⟨rfl, rfl⟩ : a2 = some ⟨g2, 0, none⟩ ∧ c2 = cap2 := by cases e2; exact ⟨rfl, rfl⟩
      have hra := ha2 k hlt
      have hrb := hb2 k hlt
      have hrl := HR.out k hlt
      obtain ⟨b1, d1, er1, _⟩ := hra.form
      obtain ⟨b2, d2, er2, _⟩ := hrb.form
      have hp : ∀ j, j < 7 → wr.cell? ⟨g1, k * 7 + j, none⟩ = some (qcell L rva k j) := fun j hj => (B.cell (p := ⟨g1, k * 7 + j, none⟩) l1).trans (hc1 k j hlt hj)
      have hq : ∀ j, j < 7 → wr.cell? ⟨g2, k * 7 + j, none⟩ = some (qcell L rvb k j) := fun j hj => (B.cell (p := ⟨g2, k * 7 + j, none⟩) l2).trans (hc2 k j hlt hj)
      have p0 := hp 0 (by omega)
      have p1 := hp 1 (by omega)
      have p2 := hp 2 (by omega)
      have p3 := hp 3 (by omega)
      have p4 := hp 4 (by omega)
      have p5 := hp 5 (by omega)
      have p6 := hp 6 (by omega)
      have q0 := hq 0 (by omega)
      have q1 := hq 1 (by omega)
      have q2 := hq 2 (by omega)
      have q3 := hq 3 (by omega)
      have q4 := hq 4 (by omega)
      have q5 := hq 5 (by omega)
      have q6 := hq 6 (by omega)
      simp only [qcell, Nat.add_zero] at p0 p1 p2 p3 p4 p5 p6 q0 q1 q2 q3 q4 q5 q6
      rw [er1] at p6 hra
      rw [er2] at q6 hrb
      generalize (qAt L k).1 = num at *
      generalize (qAt L k).2 = x at *
      obtain ⟨xs, xf, xa, xt, xo, xr, xc, xd⟩ := x
      dsimp only at p1 p2 p3 p4 p5 p6 q1 q2 q3 q4 q5 q6 hra hrb hrl
      have K := Lib.hid (fun w h1 h2 => same_one num xf xs xa xt xo (.slice b1 xr.length d1) (.slice b2 xr.length d2) xr w hrl h1 h2)
      have HRA := Lib.hid hra
      have HRB := Lib.hid hrb
      generalize xr.length = rl at *
      have hki : (k : Int) < (N : Int) := by omega
      have l2r : g2 < wr.heap.size := Nat.lt_of_lt_of_le l2 B.size
      clear hp hq hc1 hc2 e1 e2 er1 er2 ha1 ha2 hb1 hb2 hra hrb
      go_upto_region 6 with fail
      refine name_world ?_
      intro w1 hw1
      have x8 : Bx w1 wr.heap.size 65 #[.int .i64 (num : Int), .string xs, .int .i64 xf, .string xa, .string xt, .bool xo, .slice b1 rl d1] := by rw [hw1]; exact Bx.new _ _ _
      have b1' : Below wr.heap.size wr w1 := by rw [hw1]; exact bnew (Below.refl _ _)
      have B1 := bcall B b1'
      replace q0 := (b1'.cell (p := ⟨g2, k * 7, none⟩) l2r).trans q0
      replace q1 := (b1'.cell (p := ⟨g2, k * 7 + 1, none⟩) l2r).trans q1
      replace q2 := (b1'.cell (p := ⟨g2, k * 7 + 2, none⟩) l2r).trans q2
      replace q3 := (b1'.cell (p := ⟨g2, k * 7 + 3, none⟩) l2r).trans q3
      replace q4 := (b1'.cell (p := ⟨g2, k * 7 + 4, none⟩) l2r).trans q4
      replace q5 := (b1'.cell (p := ⟨g2, k * 7 + 5, none⟩) l2r).trans q5
      replace q6 := (b1'.cell (p := ⟨g2, k * 7 + 6, none⟩) l2r).trans q6
      generalize wr.heap.size = p8 at *
      clear hw1 p0 p1 p2 p3 p4 p5 p6
      go_upto_region 7 with fail
      refine name_world ?_
      intro w2 hw2
      have x9 : Bx w2 w1.heap.size 65 #[.int .i64 (num : Int), .string xs, .int .i64 xf, .string xa, .string xt, .bool xo, .slice b2 rl d2] := by rw [hw2]; exact Bx.new _ _ _
      have x8b : Bx w2 p8 65 #[.int .i64 (num : Int), .string xs, .int .i64 xf, .string xa, .string xt, .bool xo, .slice b1 rl d1] := by rw [hw2]; exact x8.alloc _
      have B2 : Below W.heap.size W w2 := by rw [hw2]; exact bnew B1
      generalize w1.heap.size = p9 at *
      clear hw2 q0 q1 q2 q3 q4 q5 q6 x8
      obtain ⟨q8, f8, l8⟩ := x8b.all
      obtain ⟨q9, f9, l9⟩ := x9.all
      go_wp2_with fail
      refine (K.out _ (HRA.out.keep B2) (HRB.out.keep B2)).mono ?_
      rintro e w3 ⟨rfl, hb3⟩
      have B3 := bcall B2 hb3
      go_wp2_with fail
      go_roundw
      case rel => exact ⟨k + 1, by omega, by go_num, B3⟩
      case measure => simp [intOf]; omega
    · have hkN : k = N := by omega
      subst hkN
      go_wp2_with fail
      go_ret
      exact ⟨rfl, B⟩
set_option maxRecDepth 100000 in
set_option maxHeartbeats 4000000 in
theorem same_notes (va vb : Value) (L : List (Nat × Nt)) (W : World) (hl : L.length ≤ 100000) (hr : ∀ k, k < L.length → (qAt L k).2.reps.length ≤ 1000) (ha : NtsV W va L) (hb : NtsV W vb L) :
    Calls Tryz.prog 12 #[va, vb] W fun e w' => e = .returned (.bool true) ∧ Below W.heap.size W w' := by
  have K := Lib.hid (equal_notes va vb L W hl hr ha hb)
  clear hl hr ha hb
  go_enter Tryz.func12, Tryz.ntmps12
  go_wp2_with fail
  refine K.out.mono ?_
  rintro e w1 ⟨rfl, hb⟩
  go_wp2_with fail
  go_ret
  exact ⟨rfl, hb⟩
end Go.Proofs.YtilninaminaadaaGreatDoor
