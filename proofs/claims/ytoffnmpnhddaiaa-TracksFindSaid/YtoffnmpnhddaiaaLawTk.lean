/- TracksFind, walked. -/
import Derived.Test.YtoffnmpnhddaiaaTrkB
namespace Go.Proofs.Ytoffnmpnhddaiaa
open Go.RowKit

theorem row_at' (w : World) (n g : Nat) (h : w.heap.size = g) : Row (w.alloc (.cells (madeCells #[.float .f32 0] n) 33)) g n (List.replicate n 0) := by subst h; exact Row.made w n
theorem tmod3 (d : Int) : -3 < d.tmod 3 ∧ d.tmod 3 < 3 := by
  have := Int.tmod_lt_of_pos d (b := 3) (by omega)
  have h2 := Int.lt_tmod_of_pos d (b := 3) (by omega)
  omega
theorem patI (i : Nat) (h : i < 324) : floatBits .add .f32 (floatOfInt .f32 (((i : Int) * (i : Int) * 7 + (i : Int) * 13) % 251)) (floatOfInt .f32 (i : Int)) = some (patW i) := by
  have := pat_some i h
  rw [show (((i * i * 7 + i * 13) % 251 : Nat) : Int) = ((i : Int) * (i : Int) * 7 + (i : Int) * 13) % 251 by rw [Int.natCast_emod, Int.natCast_add, Int.natCast_mul, Int.natCast_mul, Int.natCast_mul]; rfl] at this
  exact this
theorem sq_bd (i : Nat) (h : i < 324) : 0 ≤ (i : Int) * (i : Int) ∧ (i : Int) * (i : Int) ≤ 104976 := by
  have h1 : i * i ≤ 324 * 324 := Nat.mul_le_mul (by omega) (by omega)
  have : ((i * i : Nat) : Int) = (i : Int) * (i : Int) := Int.natCast_mul i i
  omega

set_option maxRecDepth 100000 in
set_option maxHeartbeats 4000000 in
theorem law_Tracks (x y w h : Int) (v : Value) (xs : List Nat) (dx dy : Int) (W : World) (hs1 : Sl W v xs) :
    Calls Try.prog 10 #[.agg #[.int .i64 x, .int .i64 y, .int .i64 w, .int .i64 h, v], .int .i64 dx, .int .i64 dy] W fun e w' =>
      e = .returned (.bool true) ∧ Below W.heap.size W w' := by
  have hv1 : v.cells = #[v] := by rcases hs1 with ⟨b, o, c, rfl, _⟩ | ⟨_, a, c, rfl⟩ <;> rfl
  obtain ⟨zs, hzs⟩ : ∃ zs, zs = madeCells #[.float .f32 0] 324 := ⟨_, rfl⟩
  have hmk : ∀ w : World, (Instr.makeSlice 24 (.int .i64 324) (.int .i64 324)).run Try.prog w = .ok (.slice (some ⟨w.heap.size, 0, none⟩) 324 324) (w.alloc (.cells zs 33)) := fun w => by rw [hzs]; exact run_makeF w 324 (by omega)
  have Hzs := Lib.hid hzs
  clear hzs
  go_enter Try.func10, Try.ntmps10
  go_wp2_with (go_at_call 15; refine (law_landed _).mono ?_; rintro e w' ⟨rfl, rfl⟩)
  refine (law_fit _ _ _ _ _ _ _ (hs1.keep (bnew (Below.refl _ W)))).mono ?_
  rintro e w1 ⟨g1, N1, hN1, rfl, hg1, row1, hb1⟩
  have x0 := (Bx.new W _ _).keep hb1
  have B1 := bcall (bnew (Below.refl _ W)) hb1
  clear hs1 row1 hN1 hb1
  obtain ⟨q0, f0, l0⟩ := x0.all
  have sp1 := fitPlace_bd x
  have sp2 := fitPlace_bd y
  generalize fitPlace x = fx at *
  generalize fitPlace y = fy at *
  go_upto_region 4 with fail
  obtain ⟨z0, on1⟩ := set5 x0 (.int .i64 fx) (.int .i64 fy) (.int .i64 (fitSide w)) (.int .i64 (fitSide h)) (.slice (some ⟨g1, 0, none⟩) N1 N1)
  refine name_world ?_
  intro w3 hw3
  rw [← hw3] at z0 on1
  clear hw3
  have B3 := bonly B1 on1 (by omega)
  clear x0 on1 q0 f0 l0 B1
  obtain ⟨q0, f0, l0⟩ := z0.all
  go_upto_region 5 with fail
  have z1 := (z0.set 2 (.int .i64 9)).set 3 (.int .i64 9)
  refine name_world ?_
  intro w4 hw4
  rw [← hw4] at z1
  have B4 : Below W.heap.size W w4 := by rw [hw4]; exact bput (by omega) (bput (by omega) B3)
  clear hw4 z0 q0 f0 l0 B3
  obtain ⟨q0, f0, l0⟩ := z1.all
  go_upto_region 6 with fail
  have hg := B4.size
  refine name_world ?_
  intro w5 hw5
  have z2 : Bx w5 W.heap.size 26 #[.int .i64 fx, .int .i64 fy, .int .i64 9, .int .i64 9, .slice (some ⟨w4.heap.size, 0, none⟩) 324 324] := by
    rw [hw5]; simpa using (z1.set 4 (.slice (some ⟨w4.heap.size, 0, none⟩) 324 324)).alloc _
  have row5 : Row w5 w4.heap.size 324 (fillTo 324 0 patW) := by
    rw [hw5, fillTo_zero, Hzs.out]; exact row_at' _ _ _ (by simp)
  have B5 : Below W.heap.size W w5 := by rw [hw5]; exact bnew (bput (by omega) B4)
  have hz1 := z1.lt
  clear hw5 z1 q0 f0 l0 B4 hmk Hzs
  generalize w4.heap.size = gz at *
  obtain ⟨q0, f0, l0⟩ := z2.all
  go_upto_region 7 with fail
  go_loopw [26] (fun s wr => ∃ k : Nat, k ≤ 324 ∧ s = .int .i64 (k : Int) ∧ Row wr gz 324 (fillTo 324 k patW) ∧ Bx wr W.heap.size 26 #[.int .i64 fx, .int .i64 fy, .int .i64 9, .int .i64 9, .slice (some ⟨gz, 0, none⟩) 324 324] ∧ Below W.heap.size W wr) (fun s _ => (324 - intOf s).toNat)
  case atStart => exact ⟨0, by omega, rfl, row5, z2, B5⟩
  case round =>
    clear q0 f0 l0 z2 row5 B5
    obtain ⟨k, hk, rfl, hrow, z2, hbl⟩ := hrel
    by_cases hlt : k < 324
    · obtain ⟨q0, f0, l0⟩ := z2.all
      have hc := hrow.cell k hlt
      have hfz := hrow.frozen k
      have hpi := patI k hlt
      have hs1 := fun w => fres_some hpi w
      have hs2 := fdr_some hpi
      obtain ⟨sb1, sb2⟩ := sq_bd k hlt
      have hki : (k : Int) < 324 := by omega
      clear hpi
      go_wp2_with fail
      go_roundw
      case rel =>
        refine ⟨k + 1, by omega, by go_num, ?_, z2.other _ _ (by dsimp only; omega), bput (by omega) hbl⟩
        have h1 := hrow.store k (patW k)
        rw [fillTo_set 324 k patW hlt] at h1
        exact h1
      case measure => simp [intOf]; omega
    · have hk3 : k = 324 := by omega
      subst hk3
      have hrow2 : Row wr gz 324 pat := by rw [fillTo_full] at hrow; exact hrow
      obtain ⟨q0, f0, l0⟩ := z2.all
      obtain ⟨m1, m2⟩ := tmod3 dx
      obtain ⟨m3, m4⟩ := tmod3 dy
      clear hrow
      go_upto_region 13 with fail
      have hsx : -1 ≤ dx.tmod 3 % 3 - 1 ∧ dx.tmod 3 % 3 - 1 ≤ 1 := by omega
      have hsy : -1 ≤ dy.tmod 3 % 3 - 1 ∧ dy.tmod 3 % 3 - 1 ≤ 1 := by omega
      generalize dx.tmod 3 % 3 - 1 = sx at *
      generalize dy.tmod 3 % 3 - 1 = sy at *
      have ha := hrow2.lt
      refine name_world ?_
      intro w6 hw6
      have y0 : Bx w6 W.heap.size 26 #[.int .i64 fx, .int .i64 fy, .int .i64 9, .int .i64 9, .slice (some ⟨gz, 0, none⟩) 324 324] := by rw [hw6]; exact z2.alloc _
      have y1 : Bx w6 wr.heap.size 26 #[.int .i64 fx, .int .i64 fy, .int .i64 9, .int .i64 9, .slice (some ⟨gz, 0, none⟩) 324 324] := by rw [hw6]; exact Bx.new _ _ _
      have row6 : Row w6 gz 324 pat := by rw [hw6]; exact hrow2.alloc _
      have B6 : Below W.heap.size W w6 := by rw [hw6]; exact bnew hbl
      have hz2 := z2.lt
      clear hw6 hbl hrow2 z2 q0 f0 l0 m1 m2 m3 m4 hk hlt
      generalize wr.heap.size = gy at *
      obtain ⟨q0, f0, l0⟩ := y0.all
      obtain ⟨q1, f1, l1⟩ := y1.all
      go_region
      have u1 := (y1.set 0 (.int .i64 (fx + sx))).set 1 (.int .i64 (fy + sy))
      have on1 := ((Only.refl gy w6).set 0 (.int .i64 (fx + sx))).set 1 (.int .i64 (fy + sy))
      have u0 := on1.bx (by omega) y0
      have row7 := on1.row (by omega) row6
      have B7 := bonly B6 on1 (by omega)
      generalize (w6.setCell ⟨gy, 0, none⟩ (.int .i64 (fx + sx))).setCell ⟨gy, 1, none⟩ (.int .i64 (fy + sy)) = w7 at *
      have u0d : Bx w7.drew W.heap.size 26 #[.int .i64 fx, .int .i64 fy, .int .i64 9, .int .i64 9, .slice (some ⟨gz, 0, none⟩) 324 324] := u0
      have u1d : Bx w7.drew gy 26 #[.int .i64 (fx + sx), .int .i64 (fy + sy), .int .i64 9, .int .i64 9, .slice (some ⟨gz, 0, none⟩) 324 324] := by simp at u1; exact u1
      have row8 : Row w7.drew gz 324 pat := row7
      have B8 : Below W.heap.size W w7.drew := B7.drew
      clear u0 u1 row7 B7 on1 y0 y1 row6 B6 q0 f0 l0 q1 f1 l1
      generalize w7.drew = w8 at *
      obtain ⟨q0, f0, l0⟩ := u0d.all
      obtain ⟨q1, f1, l1⟩ := u1d.all
      go_wp2_with fail
      have row9 : Rd (w8.alloc (.cells #[.int .i64 (fx + 3), .int .i64 (fy + 3), .int .i64 3, .int .i64 3] 23)) gz 0 pat := (row8.alloc _).rd
      refine (key_Track_pat fx fy sx sy _ _ (sx + 1).toNat (sy + 1).toNat gz _ rfl rfl (by omega) (by omega) (by omega) (by omega) (by omega) (by omega) (by omega) (by omega) row9).mono ?_
      rintro e w10 ⟨rfl, hb10⟩
      have B10 := bcall (bnew B8) hb10
      clear hb10 row9 row8 B8 u0d u1d q0 f0 l0 q1 f1 l1
      have ez : (FloatKind.f32.format.order 0 0 == some .eq) = true := by decide
      go_wp2_with fail
      go_ret
      exact ⟨rfl, bnew B10⟩
end Go.Proofs.Ytoffnmpnhddaiaa
