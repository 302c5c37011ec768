/- TopMovedWindow, walked: a window with whole coordinates, moved, covers moved places as it covered them before. -/
import Derived.Test.YtfkiljhjiogdlaaWnF
import Derived.Test.YtfkiljhjiogdlaaWnJ
import Derived.Test.YtfkiljhjiogdlaaWnK
import Derived.Test.YtfkiljhjiogdlaaFitS
namespace Go.Proofs.Ytfkiljhjiogdlaa
open Go.RowKit

theorem mov_ok {kind : Int} {X Y Wd H S : Nat} {ps : List (Int × Int)} {dx dy : Int} (h : movErr kind X Y Wd H S ps dx dy = 0) : winErr kind (movX kind X dx) (movX kind Y dy) Wd H S (ps.map (mov dx dy)) = 0 := by
  unfold movErr at h
  split at h
  · omega
  · split at h
    · omega
    · exact h
theorem mov_val (kind : Int) {X : Nat} {ix d : Int} (hX : Val X ix) (h1 : -100000 ≤ ix) (h2 : ix ≤ 100000) (d1 : -1000 < d) (d2 : d < 1000) : ∃ jx, Val (movX kind X d) jx ∧ (kind ≠ 3 → jx = ix + d) ∧ -200000 ≤ jx ∧ jx ≤ 200000 := by
  unfold movX
  by_cases hk : kind = 3
  · rw [if_pos hk]
    exact ⟨ix, hX, fun h => absurd hk h, by omega, by omega⟩
  · rw [if_neg hk, add_ofInt (by omega) (by omega) hX]
    exact ⟨ix + d, (ofInt_val (by omega) (by omega)).1, fun _ => rfl, by omega, by omega⟩
theorem cr_place {x y x2 y2 w h : Int} (h0 : checkRegion x y w h = 0) (h2 : checkRegion x2 y2 w h ≠ 0) : checkRegion x2 y2 w h = 5 := by
  obtain ⟨r1, r2, r3, r4, r5, r6, r7, r8, r9⟩ := cr_zero h0
  unfold checkRegion at h2 ⊢
  rw [if_neg (by omega), if_neg (by omega)] at h2 ⊢
  split
  · rfl
  · rename_i h; rw [if_neg h] at h2; exact absurd rfl h2
theorem getD_rangeM (f : Nat → Nat) {N k : Nat} (h : k < N) : ((List.range N).map f).getD k 0 = f k := by simp [List.getD, h]
set_option maxRecDepth 100000 in
set_option maxHeartbeats 4000000 in
theorem law_MovedWindow (kind : Int) (X Y Wd H S : Nat) (pa : Option Addr) (n c : Nat) (out : Bool) (ps : List (Int × Int)) (rx ry rw0 rh0 dx0 dy0 : Int) (W : World) (hs : SlP W (.slice pa n c) ps) :
    Calls Try.prog 3 #[.agg #[.int .i64 kind, .float .f32 X, .float .f32 Y, .float .f32 Wd, .float .f32 H, .float .f32 S, .slice pa n c, .bool out], .agg #[.int .i64 rx, .int .i64 ry, .int .i64 rw0, .int .i64 rh0], .int .i64 dx0, .int .i64 dy0] W fun e w' => e = .returned (.bool true) ∧ Below W.heap.size W w' := by
  have HS := Lib.hid hs
  clear hs
  obtain ⟨dx, hdx⟩ : ∃ K, dx0.tmod 1000 = K := ⟨_, rfl⟩
  obtain ⟨dy, hdy⟩ : ∃ K, dy0.tmod 1000 = K := ⟨_, rfl⟩
  have bdx : -1000 < dx ∧ dx < 1000 := by rw [← hdx]; exact ⟨Int.lt_tmod_of_pos _ (by omega), Int.tmod_lt_of_pos _ (by omega)⟩
  have bdy : -1000 < dy ∧ dy < 1000 := by rw [← hdy]; exact ⟨Int.lt_tmod_of_pos _ (by omega), Int.tmod_lt_of_pos _ (by omega)⟩
  obtain ⟨lw0, lw1⟩ := and_small rw0 15 (by omega) (by omega)
  obtain ⟨lh0, lh1⟩ := and_small rh0 15 (by omega) (by omega)
  obtain ⟨lw, hlw⟩ : ∃ K, bits .and .i64 rw0 15 = K := ⟨_, rfl⟩
  obtain ⟨lh, hlh⟩ : ∃ K, bits .and .i64 rh0 15 = K := ⟨_, rfl⟩
  rw [hlw] at lw0 lw1
  rw [hlh] at lh0 lh1
  go_enter Try.func3, Try.ntmps3
  go_upto_region 3 with (go_at_call 6; refine (top_landed _).mono ?_; rintro e w' ⟨rfl, rfl⟩)
  refine name_world ?_
  intro w0 hw0
  have x4 : Bx w0 W.heap.size 25 #[.int .i64 kind, .float .f32 X, .float .f32 Y, .float .f32 Wd, .float .f32 H, .float .f32 S, .slice pa n c, .bool out] := by rw [hw0]; exact (Bx.new _ _ _).alloc _
  have x5 : Bx w0 (W.heap.size + 1) 27 #[.int .i64 rx, .int .i64 ry, .int .i64 rw0, .int .i64 rh0] := by rw [hw0]; exact Bx.at _ (by simp)
  have B : Below W.heap.size W w0 := by rw [hw0]; exact bnew (bnew (Below.refl _ W))
  clear hw0
  obtain ⟨q5, f5, l5⟩ := x5.all
  have y5 : Bx ((w0.setCell ⟨W.heap.size + 1, 2, none⟩ (.int .i64 (1 + lw))).setCell ⟨W.heap.size + 1, 3, none⟩ (.int .i64 (1 + lh))) _ _ #[.int .i64 rx, .int .i64 ry, .int .i64 (1 + lw), .int .i64 (1 + lh)] := (x5.set 2 (.int .i64 (1 + lw))).set 3 (.int .i64 (1 + lh))
  have y4 : Bx ((w0.setCell ⟨W.heap.size + 1, 2, none⟩ (.int .i64 (1 + lw))).setCell ⟨W.heap.size + 1, 3, none⟩ (.int .i64 (1 + lh))) _ _ _ := (x4.other _ _ (by simp)).other _ _ (by simp)
  have B1 : Below W.heap.size W ((w0.setCell ⟨W.heap.size + 1, 2, none⟩ (.int .i64 (1 + lw))).setCell ⟨W.heap.size + 1, 3, none⟩ (.int .i64 (1 + lh))) := bput (by omega) (bput (by omega) B)
  clear x4 x5 B
  go_upto_region 4 with fail
  refine name_world ?_
  intro w1 hw1
  rw [← hw1] at y4 y5 B1
  clear hw1 q5 f5 l5
  obtain ⟨q4, f4, l4⟩ := y4.all
  have l5 := y5.lt
  go_wp2_with fail
  refine name_world ?_
  intro wb hwb
  have xF : Bx wb w1.heap.size 22 #[.float .f32 X, .float .f32 Y] := by rw [hwb]; exact Bx.new _ _ _
  have hb : Below w1.heap.size w1 wb := by rw [hwb]; exact bnew (Below.refl _ _)
  have x4 := y4.keep hb
  have x5 := y5.keep hb
  have B := bcall B1 hb
  clear hwb y4 y5 B1 q4 f4 hb
  generalize w1.heap.size = gF at *
  have hel : ∀ k, k < 2 → (#[Value.float .f32 X, .float .f32 Y] : Array Value)[k]? = some (.float .f32 (if k = 0 then X else Y)) := by
    intro k hk
    rcases (by omega : k = 0 ∨ k = 1) with rfl | rfl <;> rfl
  have Hel := Lib.hid hel
  clear hel
  go_loopw [40] (fun i wr => ∃ k : Nat, k ≤ 2 ∧ i = .int .i64 k ∧ wr = wb ∧ ∀ j, j < k → ∃ z, Val (if j = 0 then X else Y) z ∧ -100000 ≤ z ∧ z ≤ 100000) (fun i _ => 2 - (intOf i).toNat)
  case atStart => exact ⟨0, by omega, rfl, rfl, fun j hj => by omega⟩
  case round =>
    obtain ⟨k, hk, rfl, rfl, hz⟩ := hrel
    have Hz := Lib.hid hz
    clear hz
    by_cases hlt : k < 2
    · obtain ⟨v, hv⟩ : ∃ v, v = if k = 0 then X else Y := ⟨_, rfl⟩
      have hki : (k : Int) < 2 := by omega
      have hc := (xF.all.1 k).trans (Hel.out k hlt)
      rw [← hv] at hc
      have Hv := Lib.hid hv
      clear hv
      by_cases hr : (FloatKind.f32.format.order v 3351465984 = some .gt ∨ FloatKind.f32.format.order v 3351465984 = some .eq) ∧ (FloatKind.f32.format.order v 1203982336 = some .lt ∨ FloatKind.f32.format.order v 1203982336 = some .eq)
      · obtain ⟨h1, h2⟩ := hr
        obtain ⟨z, hz1, hz2, hz3⟩ := int_of h1 h2
        have hi := int_val hz1 hz2 hz3
        have cv := fun w => run_convert_float_int (P := Try.prog) w 22 3 .f32 .i64 v z (by kernel_rfl) Try.underlying3 hi
        have c1 : (FloatKind.f32.format.order v 3351465984 == some .gt || FloatKind.f32.format.order v 3351465984 == some .eq) = true := by simpa using h1
        have c2 : (FloatKind.f32.format.order v 1203982336 == some .lt || FloatKind.f32.format.order v 1203982336 == some .eq) = true := by simpa using h2
        clear hz1 hi h1 h2
        cases he : (FloatKind.f32.format.order v (floatOfInt .f32 z) != some .eq)
        · go_wp2_with fail
          go_roundw
          case rel =>
            refine ⟨k + 1, by omega, by go_num, by trivial, fun j hj => ?_⟩
            by_cases hjk : j < k
            · exact Hz.out j hjk
            · obtain rfl : j = k := by omega
              rw [← Hv.out]
              have he2 : FloatKind.f32.format.order v (floatOfInt .f32 z) = some .eq := by simpa using he
              exact ⟨z, val_eq (by omega) (by omega) he2, hz2, hz3⟩
          case measure => simp [intOf]; omega
        · go_wp2_with fail
          go_ret
          exact ⟨rfl, B⟩
      · have HR := Lib.hid hr
        clear hr
        go_wp2_with fail
        all_goals first | (go_ret; exact ⟨rfl, B⟩) | exact absurd ⟨by assumption, by assumption⟩ HR.out
    · obtain rfl : k = 2 := by omega
      obtain ⟨ix, hX, bx1, bx2⟩ := Hz.out 0 (by omega)
      obtain ⟨iy, hY, by1, by2⟩ := Hz.out 1 (by omega)
      rw [if_pos rfl] at hX
      rw [if_neg (by omega)] at hY
      clear Hz Hel xF
      obtain ⟨a, ha⟩ : ∃ a : Nat, 1 + lw = (a : Int) := ⟨(1 + lw).toNat, by omega⟩
      obtain ⟨b, hb⟩ : ∃ b : Nat, 1 + lh = (b : Int) := ⟨(1 + lh).toNat, by omega⟩
      have ha2 : 1 ≤ a ∧ a ≤ 16 := by omega
      have hb2 : 1 ≤ b ∧ b ≤ 16 := by omega
      rw [ha, hb] at x5
      clear hlw hlh ha hb lw0 lw1 lh0 lh1 hdx hdy
      obtain ⟨q4, f4, l4⟩ := x4.all
      obtain ⟨q5, f5, l5⟩ := x5.all
      go_wp2_with fail
      obtain ⟨E, hE⟩ : ∃ E, winErr kind X Y Wd H S ps = E := ⟨_, rfl⟩
      by_cases h0 : E = 0
      · subst h0
        obtain ⟨E, hC⟩ : ∃ E, checkRegion rx ry a b = E := ⟨_, rfl⟩
        by_cases h0 : E = 0
        · subst h0
          as_aux_lemma =>
          refine (key_WindowMatte_ok kind X Y Wd H S pa n c ps out rx ry a b _ (HS.out.keep B) ix iy hE hC hX hY (by omega) (by omega) (by omega) (by omega)).mono ?_
          rintro e v1 ⟨g1, rfl, hg1, row1, hb⟩
          obtain ⟨r1, r2, r3, r4, r5, r6, r7, r8, r9⟩ := cr_zero hC
          obtain ⟨N, hN⟩ : ∃ N, N = a * b := ⟨_, rfl⟩
          have hN2 : N ≤ 256 := by rw [hN]; exact Nat.mul_le_mul ha2.2 hb2.2
          rw [← hN] at row1 ⊢
          have HN := Lib.hid hN
          clear hN
          replace x4 := x4.keep hb
          replace x5 := x5.keep hb
          replace B := bcall B hb
          have lg1 := row1.lt
          clear hb q4 f4 l4 q5 f5 l5
          obtain ⟨q4, f4, l4⟩ := x4.all
          go_wp2_with fail
          refine name_callw ?_
          intro v2 hv2
          have x11 : Bx v2 v1.heap.size 31 #[.int .i64 rx, .int .i64 ry, .int .i64 (a : Int), .int .i64 (b : Int), .slice (some ⟨g1, 0, none⟩) N N] := by rw [hv2]; exact Bx.new _ _ _
          have hb : Below v1.heap.size v1 v2 := by rw [hv2]; exact bnew (Below.refl _ _)
          replace x4 := x4.keep hb
          replace x5 := x5.keep hb
          replace row1 := row1.keep hb
          replace B := bcall B hb
          clear hb hv2 q4 f4 l4
          generalize v1.heap.size = p11 at *
          refine (key_Moved kind X Y Wd H S pa n c ps out dx dy _ (HS.out.keep B)).mono ?_
          rintro e v3 ⟨hm, hb⟩
          replace x4 := x4.keep hb
          replace x5 := x5.keep hb
          replace x11 := x11.keep hb
          replace row1 := row1.keep hb
          replace B := bcall B hb
          clear hb
          obtain ⟨E2, hE2⟩ : ∃ E, movErr kind X Y Wd H S ps dx dy = E := ⟨_, rfl⟩
          rw [hE2] at hm
          rcases hm with ⟨h0, rfl⟩ | ⟨rfl, pb, cb, rfl, hs2⟩
          · have e0 : (E2 != 0) = true := by simpa using h0
            clear hE2 h0
            go_wp2_with fail
            go_ret
            exact ⟨rfl, by repeat (first | exact B | exact bnew B | (refine bput (by omega) ?_))⟩
          have hm2 := mov_ok hE2
          rw [List.length_map] at hs2 ⊢
          obtain ⟨jx, hX2, hcx, bj1, bj2⟩ := mov_val kind hX bx1 bx2 bdx.1 bdx.2
          obtain ⟨jy, hY2, hcy, bj3, bj4⟩ := mov_val kind hY by1 by2 bdy.1 bdy.2
          have hcov : ∀ x y, covAt kind jx jy Wd H S (ps.map (mov dx dy)) out (x + dx) (y + dy) = covAt kind ix iy Wd H S ps out x y := by
            intro x y
            by_cases hk : kind = 3
            · subst hk
              rw [covAt_poly jx jy (ix + dx) (iy + dy)]
              exact covAt_mov 3 ix iy Wd H S ps out x y dx dy
            · rw [hcx hk, hcy hk]
              exact covAt_mov kind ix iy Wd H S ps out x y dx dy
          clear hcx hcy
          generalize movX kind X dx = X2 at *
          generalize movX kind Y dy = Y2 at *
          have HC2 := Lib.hid hcov
          clear hcov
          obtain ⟨q5, f5, l5⟩ := x5.all
          go_upto_region 18 with fail
          refine name_world ?_
          intro v4 hv4
          have x13 : Bx v4 v3.heap.size 25 #[.int .i64 kind, .float .f32 X2, .float .f32 Y2, .float .f32 Wd, .float .f32 H, .float .f32 S, .slice pb ps.length cb, .bool out] := by rw [hv4]; exact (Bx.new _ _ _).alloc _
          have x14 : Bx v4 (v3.heap.size + 1) 27 #[.int .i64 rx, .int .i64 ry, .int .i64 (a : Int), .int .i64 (b : Int)] := by rw [hv4]; exact Bx.at _ (by simp)
          have hb34 : Below v3.heap.size v3 v4 := by rw [hv4]; exact bnew (bnew (Below.refl _ _))
          have y5 := x5.keep hb34
          clear hv4 q5 f5 l5
          obtain ⟨q5, f5, l5⟩ := y5.all
          obtain ⟨q14, f14, l14⟩ := x14.all
          go_region
          go_upto_region 19 with fail
          refine name_world ?_
          intro v5 hv5
          have hb : Below v3.heap.size v3 v5 := by rw [hv5]; exact (bput (by simp) (bput (by simp) hb34)).drew
          have y14 : Bx v5 (v3.heap.size + 1) 27 #[.int .i64 (rx + dx), .int .i64 (ry + dy), .int .i64 (a : Int), .int .i64 (b : Int)] := by rw [hv5]; exact (x14.set 0 _).set 1 _
          have y13 : Bx v5 v3.heap.size 25 #[.int .i64 kind, .float .f32 X2, .float .f32 Y2, .float .f32 Wd, .float .f32 H, .float .f32 S, .slice pb ps.length cb, .bool out] := by rw [hv5]; exact (x13.other _ _ (by simp)).other _ _ (by simp)
          clear hv5 x13 x14 y5 q5 f5 l5 q14 f14 l14 hb34 x4 x5
          replace x11 := x11.keep hb
          replace row1 := row1.keep hb
          replace hs2 := hs2.keep hb
          replace B := bcall B hb
          clear hb
          generalize v3.heap.size = p13 at *
          obtain ⟨q13, f13, l13⟩ := y13.all
          obtain ⟨q14, f14, l14⟩ := y14.all
          go_wp2_with fail
          obtain ⟨E3, hC2⟩ : ∃ E, checkRegion (rx + dx) (ry + dy) a b = E := ⟨_, rfl⟩
          by_cases h0 : E3 = 0
          · subst h0
            refine (key_WindowMatte_ok kind X2 Y2 Wd H S pb ps.length cb _ out (rx + dx) (ry + dy) a b _ hs2 jx jy hm2 hC2 hX2 hY2 bj1 bj2 bj3 bj4).mono ?_
            rintro e v6 ⟨g2, rfl, hg2, row2, hb⟩
            rw [← HN.out] at row2 ⊢
            replace x11 := x11.keep hb
            replace row1 := row1.keep hb
            replace B := bcall B hb
            have lg2 := row2.lt
            clear hb q13 f13 l13 q14 f14 l14 y13 y14
            obtain ⟨q11, f11, l11⟩ := x11.all
            go_wp2_with fail
            refine name_world ?_
            intro v7 hv7
            have x15 : Bx v7 v6.heap.size 31 #[.int .i64 (rx + dx), .int .i64 (ry + dy), .int .i64 (a : Int), .int .i64 (b : Int), .slice (some ⟨g2, 0, none⟩) N N] := by rw [hv7]; exact Bx.new _ _ _
            have hb : Below v6.heap.size v6 v7 := by rw [hv7]; exact bnew (Below.refl _ _)
            replace x11 := x11.keep hb
            replace row1 := row1.keep hb
            replace row2 := row2.keep hb
            replace B := bcall B hb
            clear hb hv7 q11 f11 l11
            generalize v6.heap.size = p15 at *
            have hcell : ∀ k, k < N → ∃ v, v7.cell? ⟨g1, k, none⟩ = some (.float .f32 v) ∧ v7.cell? ⟨g2, k, none⟩ = some (.float .f32 v) ∧ isNaN v = false := by
              intro k hk
              have hm1 := Nat.mod_lt k (show 0 < a by omega)
              have hd1 : k / a < b := by rw [Nat.div_lt_iff_lt_mul (by omega), Nat.mul_comm, ← HN.out]; exact hk
              have c1 := row1.cell k hk
              have c2 := row2.cell k hk
              rw [getD_rangeM _ hk] at c1 c2
              generalize k % a = u at c1 c2 hm1
              generalize k / a = z at c1 c2 hd1
              refine ⟨_, c1, ?_, covAt_nn ix iy out (rx + (u : Int)) (ry + (z : Int)) hE (by omega) (by omega) (by omega) (by omega) (by omega) (by omega) (by omega) (by omega)⟩
              rw [c2, show rx + dx + (u : Int) = rx + (u : Int) + dx by omega, show ry + dy + (z : Int) = ry + (z : Int) + dy by omega, HC2.out]
            have Hcell := Lib.hid hcell
            clear hcell HC2 HN row1 row2
            go_loopw [100] (fun i wr => ∃ k : Nat, k ≤ N ∧ i = .int .i64 k ∧ wr = v7) (fun i _ => N - (intOf i).toNat)
            case atStart => exact ⟨0, by omega, rfl, rfl⟩
            case round =>
              obtain ⟨k, hk, rfl, rfl⟩ := hrel
              obtain ⟨q11, f11, l11⟩ := x11.all
              obtain ⟨q15, f15, l15⟩ := x15.all
              by_cases hlt : k < N
              · have hki : (k : Int) < (N : Int) := by omega
                obtain ⟨v, c1, c2, c3⟩ := Hcell.out k hlt
                have c4 : (FloatKind.f32.format.order v v != some .eq) = false := c3
                clear c3
                go_wp2_with fail
                go_roundw
                case rel => exact ⟨k + 1, by omega, by go_num, by trivial⟩
                case measure => simp [intOf]; omega
              · obtain rfl : k = N := by omega
                go_wp2_with fail
                go_ret
                exact ⟨rfl, B⟩
          · have h5 := cr_place hC (by rw [hC2]; exact h0)
            refine (key_WindowMatte_err2 kind X2 Y2 Wd H S pb ps.length cb _ out (rx + dx) (ry + dy) a b _ hs2 5 hm2 h5 (by omega)).mono ?_
            rintro e v6 ⟨rfl, hb⟩
            replace B := bcall B hb
            clear hb q13 f13 l13 q14 f14 l14 y13 y14
            go_wp2_with fail
            go_ret
            exact ⟨rfl, by repeat (first | exact B | exact bnew B | (refine bput (by omega) ?_))⟩
        · as_aux_lemma =>
          refine (key_WindowMatte_err2 kind X Y Wd H S pa n c ps out rx ry a b _ (HS.out.keep B) E hE hC h0).mono ?_
          rintro e v1 ⟨rfl, hb⟩
          replace B := bcall B hb
          have e0 : (E != 0) = true := by simpa using h0
          clear hb hC h0 q4 f4 l4 q5 f5 l5
          go_wp2_with fail
          go_ret
          exact ⟨rfl, by repeat (first | exact B | exact bnew B | (refine bput (by omega) ?_))⟩
      · as_aux_lemma =>
        refine (key_WindowMatte_err1 kind X Y Wd H S pa n c ps out rx ry a b _ (HS.out.keep B) E hE h0).mono ?_
        rintro e v1 ⟨rfl, hb⟩
        replace B := bcall B hb
        have e0 : (E != 0) = true := by simpa using h0
        clear hb hE h0 q4 f4 l4 q5 f5 l5
        go_wp2_with fail
        go_ret
        exact ⟨rfl, by repeat (first | exact B | exact bnew B | (refine bput (by omega) ?_))⟩
end Go.Proofs.Ytfkiljhjiogdlaa
