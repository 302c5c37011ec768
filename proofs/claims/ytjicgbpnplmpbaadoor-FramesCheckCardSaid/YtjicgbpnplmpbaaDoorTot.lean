/- The totals of a frame: frame.Total and the reference's. -/
import Derived.Test.YtjicgbpnplmpbaaDoorPln
import Derived.Test.YtjicgbpnplmpbaaDoorSum
namespace Go.Proofs.YtjicgbpnplmpbaaDoor
open Go.RowKit

theorem alloc_sz (w : World) (ob : Obj) : (w.alloc ob).heap.size = w.heap.size + 1 := by simp
/-- The sum of channel ch. -/
def totOf (xs : List Nat) (M ch : Nat) : Nat := sumC M (planeL xs M ch)
theorem canon_tot (xs : List Nat) (M ch : Nat) : canon (totOf xs M ch) = totOf xs M ch := canon_sumC _ _

/-- Four cells, of which the first k are laid. -/
def four (k : Nat) (F : Nat → Nat) : Array Value := ((fillTo 4 k F).map (Value.float .f32)).toArray
theorem four_zero (F : Nat → Nat) : four 0 F = #[.float .f32 0, .float .f32 0, .float .f32 0, .float .f32 0] := by
  unfold four
  rw [fillTo_zero]
  rfl
theorem four_full (F : Nat → Nat) : four 4 F = #[.float .f32 (F 0), .float .f32 (F 1), .float .f32 (F 2), .float .f32 (F 3)] := by
  unfold four
  rw [fillTo_full]
  rfl
theorem four_set (k : Nat) (F : Nat → Nat) (hk : k < 4) : (four k F).setIfInBounds k (.float .f32 (F k)) = four (k + 1) F := by
  unfold four
  rw [← fillTo_set 4 k F hk, List.map_set]
  simp
theorem four_at (k : Nat) (F : Nat → Nat) (hk : k < 4) : (four k F)[k]? = some (.float .f32 ((fillTo 4 k F).getD k 0)) := by
  unfold four
  have := fillTo_len 4 k F
  simp [this, hk]

set_option maxRecDepth 100000 in
set_option maxHeartbeats 1000000 in
theorem frame_Total (x y w h : Int) (b o n c M : Nat) (xs : List Nat) (W : World) (hck : checkFrame x y w h n = 0) (hM : (M : Int) = w * h) (hM2 : M ≤ 65536) (hn : n = 4 * M) (hxs : xs.length = n) (hrd : Rd W b o xs)
    (hw1 : 1 ≤ w) (hw2 : w ≤ 256) (hh1 : 1 ≤ h) (hh2 : h ≤ 256) :
    Calls Tryd.prog 15 #[.agg #[.int .i64 x, .int .i64 y, .int .i64 w, .int .i64 h, .slice (some ⟨b, o, none⟩) n c]] W fun e w' =>
      e = .returned (.tuple #[.agg #[.float .f32 (totOf xs M 0), .float .f32 (totOf xs M 1), .float .f32 (totOf xs M 2), .float .f32 (totOf xs M 3)], .int .i64 0]) ∧ Below W.heap.size W w' := by
  have hM1 : 1 ≤ M := by
    have : 1 * 1 ≤ w * h := Int.mul_le_mul hw1 hh1 (by omega) (by omega)
    omega
  have Hck := Lib.hid (And.intro hck hM)
  have Hxs := Lib.hid hxs
  have hbb := hrd.lt
  subst hn
  clear hck hM hxs
  go_enter Tryd.func15, Tryd.ntmps15
  go_wp2_with fail
  refine name_world ?_
  intro wb hwb
  have x0 : Bx wb W.heap.size 26 #[.int .i64 x, .int .i64 y, .int .i64 w, .int .i64 h, .slice (some ⟨b, o, none⟩) (4 * M) c] := by rw [hwb]; exact Bx.alloc (Bx.alloc (Bx.new _ _ _) _) _
  have x1 : Bx wb (W.heap.size + 1) 32 #[.float .f32 0, .float .f32 0, .float .f32 0, .float .f32 0] := by rw [hwb]; exact Bx.alloc (Bx.at _ (alloc_sz _ _)) _
  have x2 : Bx wb (W.heap.size + 1 + 1) 32 #[.float .f32 0, .float .f32 0, .float .f32 0, .float .f32 0] := by rw [hwb]; exact Bx.at _ (((alloc_sz _ _).trans (congrArg (· + 1) (alloc_sz _ _))))
  have B1 : Below W.heap.size W wb := by rw [hwb]; exact bnew (bnew (bnew (Below.refl _ W)))
  have hs1 : wb.heap.size = W.heap.size + 3 := by rw [hwb]; simp
  clear hwb
  go_loopw [8] (fun i wr => ∃ k : Nat, k ≤ 4 ∧ i = .int .i64 k ∧ Bx wr (W.heap.size + 1 + 1) 32 (four k (totOf xs M)) ∧ Bx wr W.heap.size 26 #[.int .i64 x, .int .i64 y, .int .i64 w, .int .i64 h, .slice (some ⟨b, o, none⟩) (4 * M) c] ∧
      Bx wr (W.heap.size + 1) 32 #[.float .f32 0, .float .f32 0, .float .f32 0, .float .f32 0] ∧ Below W.heap.size W wr) (fun i _ => 4 - (intOf i).toNat)
  case atStart => exact ⟨0, by omega, rfl, by rw [four_zero]; exact x2, x0, x1, B1⟩
  case round =>
    obtain ⟨k, hk, rfl, z2, z0, z1, hbl⟩ := hrel
    have hlz := z2.lt
    by_cases hlt : k < 4
    · obtain ⟨q0, f0, m0⟩ := z0.all
      have hki : (k : Int) < 4 := by omega
      go_wp2_with fail
      refine (frame_Plane _ _ _ _ _ _ _ _ M k xs _ Hck.out.1 Hck.out.2 hM2 rfl hlt Hxs.out (hrd.keep hbl) hw1 hw2 hh1 hh2).mono ?_
      rintro e w1 ⟨g, rfl, hg, hrow, hb1⟩
      have y0 := z0.keep hb1
      have y1 := z1.keep hb1
      have y2 := z2.keep hb1
      have B2 := bcall hbl hb1
      clear z0 z1 z2 q0 f0 m0 hb1 hbl
      obtain ⟨q2, f2, m2⟩ := y2.all
      go_wp2_with fail
      refine (num_Sum (planeL xs M k) _ _ _ _ _ (planeL_len _ _ _) hM1 (Nat.le_refl _) (by omega) hrow.rd).mono ?_
      rintro e w2 ⟨rfl, hb2⟩
      have z0 := y0.keep hb2
      have z1 := y1.keep hb2
      have z2 := y2.keep hb2
      have B3 := bcall B2 hb2
      clear y0 y1 y2 q2 f2 m2 hb2
      obtain ⟨q2, f2, m2⟩ := z2.all
      have hrc : w2.cell? ⟨W.heap.size + 1 + 1, k, none⟩ = _ := (q2 k).trans (four_at k _ hlt)
      clear q2
      go_wp2_with fail
      go_roundw
      case rel =>
        have h1 := z2.set k (.float .f32 (totOf xs M k))
        rw [four_set k _ hlt] at h1
        exact ⟨k + 1, by omega, by go_num, h1, z0.other _ _ (by dsimp only; omega), z1.other _ _ (by dsimp only; omega), bput (by omega) B3⟩
      case measure => simp [intOf]; omega
    · have hkM : k = 4 := by omega
      subst hkM
      rw [four_full] at z2
      obtain ⟨q1, f1, m1⟩ := z1.all
      obtain ⟨q2, f2, m2⟩ := z2.all
      go_wp2_with fail
      refine bodyPost_ret (v := .tuple #[.agg #[.float .f32 (totOf xs M 0), .float .f32 (totOf xs M 1), .float .f32 (totOf xs M 2), .float .f32 (totOf xs M 3)], .int .i64 0]) (by simp [results, Tryd.results15, go_sem, q1]) rfl ⟨rfl, ?_⟩
      exact bput (by omega) (bput (by omega) (bput (by omega) (bput (by omega) hbl)))

end Go.Proofs.YtjicgbpnplmpbaaDoor
