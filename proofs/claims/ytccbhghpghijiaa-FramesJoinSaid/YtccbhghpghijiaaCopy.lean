/- frame.copyInto. -/
import Derived.Test.YtccbhghpghijiaaCopyP
import Derived.Test.YtccbhghpghijiaaCutB
import Derived.Test.YtccbhghpghijiaaTil
namespace Go.Proofs.Ytccbhghpghijiaa
open Go.RowKit

/-- Below B, all blocks but g are as they were. -/
structure Off (g B : Nat) (w w' : World) : Prop where
  os : w'.os = w.os
  tape : w'.tape = w.tape
  output : w'.output = w.output
  size : w.heap.size ≤ w'.heap.size
  block : ∀ k, k < B → k ≠ g → w'.heap[k]? = w.heap[k]?
theorem Off.of {g B : Nat} {w w' : World} (h : Below B w w') : Off g B w w' := ⟨h.os, h.tape, h.output, h.size, fun k hk _ => h.block k hk⟩
theorem Off.then {g B : Nat} {w w1 w2 : World} (h : Off g B w w1) (hb : Below w1.heap.size w1 w2) (hB : B ≤ w.heap.size) : Off g B w w2 :=
  ⟨hb.os.trans h.os, hb.tape.trans h.tape, hb.output.trans h.output, Nat.le_trans h.size hb.size, fun k hk hn => (hb.block k (by have := h.size; omega)).trans (h.block k hk hn)⟩
theorem Off.set {g B o : Nat} {v : Value} {w w1 : World} (h : Off g B w w1) : Off g B w (w1.setCell ⟨g, o, none⟩ v) :=
  ⟨h.os, h.tape, h.output, by simpa [World.setCell] using h.size, fun k hk hn => by rw [Below.heap_setCell _ _ _ _ hn]; exact h.block k hk hn⟩
theorem Off.bx {g B b : Nat} {w w' : World} {T : TypeId} {cs : Array Value} (h : Off g B w w') (x : Bx w b T cs) (hb : b < B) (hn : b ≠ g) : Bx w' b T cs := by
  unfold Bx; rw [h.block b hb hn]; exact x
theorem Off.rd {g B b o : Nat} {w w' : World} {xs : List Nat} (h : Off g B w w') (x : Rd w b o xs) (hb : b < B) (hn : b ≠ g) : Rd w' b o xs :=
  ⟨Nat.lt_of_lt_of_le x.1 h.size, fun k hk => by rw [World.cell?_of_block (w := w) (a := ⟨b, o + k, none⟩) (h.block b hb hn)]; exact x.2 k hk⟩
theorem Off.row {g B b n : Nat} {w w' : World} {xs : List Nat} (h : Off g B w w') (x : Row w b n xs) (hb : b < B) (hn : b ≠ g) : Row w' b n xs := by
  obtain ⟨hl, cur, h1, h2⟩ := x
  exact ⟨hl, cur, by rw [h.block b hb hn]; exact h1, h2⟩
theorem Off.below {g B B' : Nat} {w w' : World} (h : Off g B w w') (hg : B' ≤ g) (hB : B' ≤ B) : Below B' w w' := ⟨h.os, h.tape, h.output, h.size, fun k hk => h.block k (by omega) (by omega)⟩

theorem frame_offset_at (rx ry : Int) (w : Nat) (h u v : Int) (i j k : Nat) (hu : u = rx + (i : Int)) (hv : v = ry + (j : Int)) (hk : 4 * (j * w + i) = k) (W : World) (h1 : -10000000 ≤ rx) (h2 : rx ≤ 10000000) (h3 : -10000000 ≤ ry) (h4 : ry ≤ 10000000) (hw : w ≤ 256) (hi : i ≤ 256) (hj : j ≤ 256) :
    Calls Try.prog 18 #[.agg #[.int .i64 rx, .int .i64 ry, .int .i64 (w : Int), .int .i64 h], .int .i64 u, .int .i64 v] W fun e w' => e = .returned (.int .i64 (k : Int)) ∧ Below W.heap.size W w' := by
  subst hu hv hk
  exact frame_offset rx ry w h i j W h1 h2 h3 h4 hw hi hj

set_option maxRecDepth 100000 in
set_option maxHeartbeats 2000000 in
theorem frame_copyInto (x y x2 y2 : Int) (w h w2 h2 i0 j0 i1 j1 cw ch gt b2 o2 N c N2 c2 : Nat) (zs xs : List Nat) (W : World)
    (hx1 : -4000000 ≤ x) (hx2 : x ≤ 4000000) (hy1 : -4000000 ≤ y) (hy2 : y ≤ 4000000) (gx1 : -4000000 ≤ x2) (gx2 : x2 ≤ 4000000) (gy1 : -4000000 ≤ y2) (gy2 : y2 ≤ 4000000) (hw : w ≤ 256) (hh : h ≤ 256) (hw2 : w2 ≤ 256) (hh2 : h2 ≤ 256)
    (hm : Meet x y w h x2 y2 w2 h2 i0 j0 i1 j1 cw ch) (hc : commonOf x y w h x2 y2 w2 h2 = ((x + i0, y + j0, (cw : Int), (ch : Int)), true))
    (hN : N = 4 * (w * h)) (hN2 : N2 = 4 * (w2 * h2)) (hzs : zs.length = N) (hxs : xs.length = N2) (hrow : Row W gt N zs) (hrd : Rd W b2 o2 xs) (hne : b2 ≠ gt) :
    Calls Try.prog 19 #[.agg #[.int .i64 x, .int .i64 y, .int .i64 (w : Int), .int .i64 (h : Int), .slice (some ⟨gt, 0, none⟩) N c], .agg #[.int .i64 x2, .int .i64 y2, .int .i64 (w2 : Int), .int .i64 (h2 : Int), .slice (some ⟨b2, o2, none⟩) N2 c2]] W fun e w' =>
      e = .returned (.tuple #[]) ∧ Row w' gt N (copyL zs xs w h w2 i0 j0 i1 j1 cw ch ch 0) ∧ Off gt W.heap.size W w' := by
  obtain ⟨m1, m2, m3, m4, m5, m6, m7, m8, m9, m10, m11, m12⟩ := hm
  have hg0 := hrow.lt
  have hb0 := hrd.lt
  have hwh : w * h ≤ 256 * 256 := Nat.mul_le_mul hw hh
  have hwh2 : w2 * h2 ≤ 256 * 256 := Nat.mul_le_mul hw2 hh2
  have Hc := Lib.hid (And.intro hN (And.intro hN2 (And.intro hzs hxs)))
  have HN1 : N ≤ 262144 := by omega
  have HN2' : N2 ≤ 262144 := by omega
  have Hm := Lib.hid (And.intro m1 m2)
  clear m1 m2 hN hN2 hzs hxs hwh hwh2 m9 m10 m11 m12
  go_enter Try.func19, Try.ntmps19
  go_wp2_with fail
  refine nm_call ?_
  intro wb hwb
  have x0 : Bx wb W.heap.size 26 #[.int .i64 x, .int .i64 y, .int .i64 (w : Int), .int .i64 (h : Int), .slice (some ⟨gt, 0, none⟩) N c] := by rw [hwb]; exact Bx.alloc (Bx.new _ _ _) _
  have x1 : Bx wb (W.heap.size + 1) 26 #[.int .i64 x2, .int .i64 y2, .int .i64 (w2 : Int), .int .i64 (h2 : Int), .slice (some ⟨b2, o2, none⟩) N2 c2] := by rw [hwb]; exact Bx.at _ (by simp)
  have B1 : Below W.heap.size W wb := by rw [hwb]; exact bnew (bnew (Below.refl _ W))
  clear hwb
  refine (frame_Common_at _ _ _ _ _ _ _ _ _ _ _ _ _ hc _ (by omega) (by omega) (by omega) (by omega) (by omega) (by omega) (by omega) (by omega) (by omega) (by omega) (by omega) (by omega) (by omega) (by omega) (by omega) (by omega)).mono ?_
  rintro e w1 ⟨rfl, hb1⟩
  replace x0 := x0.keep hb1
  replace x1 := x1.keep hb1
  replace B1 := bcall B1 hb1
  clear hb1 hc
  have l1 := x1.lt
  go_wp2_with fail
  refine name_world ?_
  intro wb hwb
  have x4 : Bx wb w1.heap.size 23 #[.int .i64 (x + i0), .int .i64 (y + j0), .int .i64 (cw : Int), .int .i64 (ch : Int)] := by rw [hwb]; exact Bx.new _ _ _
  have hb1 : Below w1.heap.size w1 wb := by rw [hwb]; exact bnew (Below.refl _ _)
  clear hwb
  replace x0 := x0.keep hb1
  replace x1 := x1.keep hb1
  replace B1 := bcall B1 hb1
  have row0 : Row wb gt N (copyL zs xs w h w2 i0 j0 i1 j1 cw ch 0 0) := by
    rw [copyL_zero _ _ _ _ _ _ _ _ _ _ _ (by rw [Hc.out.2.2.1, Hc.out.1])]
    exact hrow.keep B1
  have off0 : Off gt W.heap.size W wb := Off.of B1
  clear hb1
  generalize w1.heap.size = pr at *
  clear hrow B1
  obtain ⟨q4, f4, l4⟩ := x4.all
  go_wp2_with fail
  clear q4 f4 l4
  go_loopw [6] (fun s wr => ∃ r : Nat, r ≤ ch ∧ s = .int .i64 (y + ((j0 + r : Nat) : Int)) ∧ Row wr gt N (copyL zs xs w h w2 i0 j0 i1 j1 cw ch r 0) ∧ Bx wr W.heap.size 26 #[.int .i64 x, .int .i64 y, .int .i64 (w : Int), .int .i64 (h : Int), .slice (some ⟨gt, 0, none⟩) N c] ∧
    Bx wr (W.heap.size + 1) 26 #[.int .i64 x2, .int .i64 y2, .int .i64 (w2 : Int), .int .i64 (h2 : Int), .slice (some ⟨b2, o2, none⟩) N2 c2] ∧ Bx wr pr 23 #[.int .i64 (x + i0), .int .i64 (y + j0), .int .i64 (cw : Int), .int .i64 (ch : Int)] ∧ Off gt W.heap.size W wr) (fun s _ => (y + j0 + ch - intOf s).toNat)
  case atStart => exact ⟨0, by omega, by simp, row0, x0, x1, x4, off0⟩
  case round =>
    clear row0 x0 x1 x4 off0
    obtain ⟨r, hr, rfl, row, x0, x1, x4, off⟩ := hrel
    obtain ⟨q4, f4, l4⟩ := x4.all
    by_cases hlt : r < ch
    · have hjw : (j0 + r) * w + w ≤ h * w := by rw [← Nat.succ_mul]; exact Nat.mul_le_mul_right _ (by omega)
      have hjw2 : (j1 + r) * w2 + w2 ≤ h2 * w2 := by rw [← Nat.succ_mul]; exact Nat.mul_le_mul_right _ (by omega)
      have hA : 4 * ((j0 + r) * w + i0) + 4 * cw ≤ N := by rw [Hc.out.1, Nat.mul_comm w h]; omega
      have hB : 4 * ((j1 + r) * w2 + i1) + 4 * cw ≤ N2 := by rw [Hc.out.2.1, Nat.mul_comm w2 h2]; omega
      have hset := fun s (hs : s < 4 * cw) => copyL_set zs xs w h w2 i0 j0 i1 j1 cw ch r s m3 hs
      generalize hPA : 4 * ((j0 + r) * w + i0) = PA at *
      generalize hPB : 4 * ((j1 + r) * w2 + i1) = PB at *
      have HPA := Lib.hid (And.intro hPA hPB)
      have Hset := Lib.hid hset
      clear hPA hPB hjw hjw2 hset
      obtain ⟨q0, f0, l0⟩ := x0.all
      obtain ⟨q1, f1, l1⟩ := x1.all
      have hyl : y + ((j0 + r : Nat) : Int) < y + (j0 : Int) + (ch : Int) := by omega
      go_wp2_with fail
      refine wp_region_all (fun z : BW wr.heap.size wr => z.w) (by kernel_rfl) (by kernel_rfl) (BW.start _ _) rfl ?_
      repeat (go_big_quiet_step (first
        | (go_at_call 18; refine BW.call (Nat.le_refl _) _ (frame_offset_at _ _ _ _ _ _ i0 (j0 + r) PA ?_ ?_ ?_ _ ?_ ?_ ?_ ?_ ?_ ?_ ?_); exact rfl; exact rfl; exact HPA.out.1; omega; omega; omega; omega; omega; omega; omega)
        | (go_at_call 18; refine BW.call (Nat.le_refl _) _ (frame_offset_at _ _ _ _ _ _ i1 (j1 + r) PB ?_ ?_ ?_ _ ?_ ?_ ?_ ?_ ?_ ?_ ?_); exact Hm.out.1; (have := Hm.out.2; omega); exact HPA.out.2; omega; omega; omega; omega; omega; omega; omega)))
      refine wpQuiet_nil ?_
      intro z
      clear q0 f0 l0 q1 f1 l1 q4 f4 l4
      have y0 := x0.keep z.below
      have y1 := x1.keep z.below
      have y4 := x4.keep z.below
      have row2 := row.keep z.below
      have off2 := off.then z.below (Nat.le_refl _)
      clear x0 x1 x4 row off
      obtain ⟨q4, f4, l4⟩ := y4.all
      go_wp2_with fail
      clear q4 f4 l4
      go_loopw [46] (fun s wr => ∃ k : Nat, k ≤ 4 * cw ∧ s = .int .i64 (k : Int) ∧ Row wr gt N (copyL zs xs w h w2 i0 j0 i1 j1 cw ch r k) ∧ Bx wr W.heap.size 26 #[.int .i64 x, .int .i64 y, .int .i64 (w : Int), .int .i64 (h : Int), .slice (some ⟨gt, 0, none⟩) N c] ∧
        Bx wr (W.heap.size + 1) 26 #[.int .i64 x2, .int .i64 y2, .int .i64 (w2 : Int), .int .i64 (h2 : Int), .slice (some ⟨b2, o2, none⟩) N2 c2] ∧ Bx wr pr 23 #[.int .i64 (x + i0), .int .i64 (y + j0), .int .i64 (cw : Int), .int .i64 (ch : Int)] ∧ Off gt W.heap.size W wr) (fun s _ => 4 * cw - (intOf s).toNat)
      case atStart => exact ⟨0, by omega, by simp, row2, y0, y1, y4, off2⟩
      case round =>
        clear row2 y0 y1 y4 off2
        obtain ⟨k, hk, rfl, row, y0, y1, y4, off⟩ := hrel
        by_cases hlt2 : k < 4 * cw
        · have hki : (k : Int) < 4 * (cw : Int) := by omega
          obtain ⟨q0, f0, l0⟩ := y0.all
          obtain ⟨q1, f1, l1⟩ := y1.all
          have hrd2 := off.rd hrd hb0 hne
          have hsrc := hrd2.cell (PB + k) (by rw [Hc.out.2.2.2]; omega)
          have hbl := hrd2.lt
          have hrc := row.cell (PA + k) (by omega)
          have hrf := row.frozen (PA + k)
          have hgl := row.lt
          have hiA : (PA : Int) + (k : Int) < (N : Int) := by omega
          have hiB : (PB : Int) + (k : Int) < (N2 : Int) := by omega
          have hst := Hset.out k hlt2
          have Hst := Lib.hid hst
          clear hst
          go_wp2_with fail
          refine wp_region_tail (fun z : BW wr.heap.size wr => z.w) 13 (by kernel_rfl) (by kernel_rfl) (BW.start _ _) rfl ?_
          simp only [List.take_succ_cons, List.take_zero, List.drop_succ_cons, List.drop_zero]
          repeat (go_big_quiet_step (first
            | (go_at_call 32; exact BW.call_same _ (num_Clean _ _))))
          refine wpQuiet_nil ?_
          intro z
          have hrc2 := (row.keep z.below).cell (PA + k) (by omega)
          have hrf2 := (row.keep z.below).frozen (PA + k)
          go_wp2_with fail
          go_roundw
          case rel =>
            refine ⟨k + 1, by omega, by go_num, ?_, (y0.keep z.below).other _ _ (by dsimp only; omega), (y1.keep z.below).other _ _ (by dsimp only; omega), (y4.keep z.below).other _ _ (by dsimp only; omega), (off.then z.below (Nat.le_refl _)).set⟩
            have h1 := (row.keep z.below).store (PA + k) (canon (xs.getD (PB + k) 0))
            rw [Hst.out] at h1
            simpa using h1
          case measure => simp [intOf]; omega
        · have hk4 : k = 4 * cw := by omega
          subst hk4
          obtain ⟨q4, f4, l4⟩ := y4.all
          go_wp2_with fail
          go_roundw
          case rel => exact ⟨r + 1, by omega, by go_num, by rw [← copyL_row]; exact row, y0, y1, y4, off⟩
          case measure => simp [intOf]; omega
    · have hrc : r = ch := by omega
      subst hrc
      have hyl : ¬ (y + ((j0 + r : Nat) : Int) < y + (j0 : Int) + (r : Int)) := by omega
      go_wp2_with fail
      go_end0
      exact ⟨rfl, row, off⟩
end Go.Proofs.Ytccbhghpghijiaa
