/- The errors of a curve. (printed by gen_gnd.py) -/
import Derived.Test.YticekgnmiaidjaaGreatDoorGnC
namespace Go.Proofs.YticekgnmiaidjaaGreatDoor
open Go.RowKit Go.Lib

theorem cmp_flip (a b : Int) : (compare a b == .gt) = (compare b a == .lt) := by
  show (compareOfLessAndEq a b == .gt) = (compareOfLessAndEq b a == .lt)
  unfold compareOfLessAndEq
  by_cases h1 : a < b
  · rw [if_pos h1, if_neg (by omega), if_neg (by omega)]; rfl
  · rw [if_neg h1]
    by_cases h2 : a = b
    · rw [if_pos h2, if_neg (by omega), if_pos h2.symm]; rfl
    · rw [if_neg h2, if_pos (by omega)]; rfl
theorem order_flip (a b : Nat) : (FloatKind.f32.format.order a b == some .gt) = (FloatKind.f32.format.order b a == some .lt) := by
  have key : ∀ x y : Ieee.Datum, (x.order y == some .gt) = (y.order x == some .lt) := by
    intro x y
    cases x with
    | nan p q => cases y <;> rfl
    | infinity s =>
      cases y with
      | nan p q => rfl
      | infinity t => cases s <;> cases t <;> rfl
      | number t n j => cases s <;> rfl
    | number s m i =>
      cases y with
      | nan p q => rfl
      | infinity t => cases t <;> rfl
      | number t n j =>
        show (some (compare (Ieee.signed s m (i - min i j).toNat) (Ieee.signed t n (j - min i j).toNat)) == some .gt) = (some (compare (Ieee.signed t n (j - min j i).toNat) (Ieee.signed s m (i - min j i).toNat)) == some .lt)
        rw [Int.min_comm j i]
        exact cmp_flip _ _
  exact key _ _
theorem risesF_stop (xs : List Nat) (k : Nat) (hk : k + 1 < xs.length) (h : (FloatKind.f32.format.order (xs.getD k 0) (xs.getD (k + 1) 0) == some .lt) = false) : risesF xs = false := by
  unfold risesF
  rw [List.all_eq_false]
  exact ⟨k, List.mem_range.2 (by omega), by rw [h]; simp⟩
def risesTo (xs : List Nat) (k : Nat) : Bool := (List.range k).all fun i => FloatKind.f32.format.order (xs.getD i 0) (xs.getD (i + 1) 0) == some .lt
theorem risesTo_succ (xs : List Nat) (k : Nat) : risesTo xs (k + 1) = (risesTo xs k && (FloatKind.f32.format.order (xs.getD k 0) (xs.getD (k + 1) 0) == some .lt)) := by
  unfold risesTo
  rw [List.range_succ, List.all_append]
  simp
set_option maxRecDepth 100000 in
set_option maxHeartbeats 16000000 in
theorem grade_CheckCurve (c : Cv) (vx vy : Value) (W : World) (hx : Sl W vx c.xs) (hy : Sl W vy c.ys) : Calls Tryz.prog 82 #[.agg #[.int .i64 c.kind, vx, vy]] W fun e w' => e = .returned (.int .i64 (curveErr c)) ∧ Below W.heap.size W w' := by
  obtain ⟨k, xs, ys⟩ := c
  dsimp only at hx hy ⊢
  obtain ⟨R, hR⟩ : ∃ R : Int, curveErr ⟨k, xs, ys⟩ = R := ⟨_, rfl⟩
  rw [hR]
  obtain ⟨ax, nx, cx, evx, hnx⟩ : ∃ a n c, vx = .slice a n c ∧ xs.length = n := by
    rcases hx with ⟨b, o, c, h1, _⟩ | ⟨h1, a, c, h2⟩
    · exact ⟨_, _, _, h1, rfl⟩
    · exact ⟨_, _, _, h2, by rw [h1]; rfl⟩
  obtain ⟨ay, ny, cy, evy, hny⟩ : ∃ a n c, vy = .slice a n c ∧ ys.length = n := by
    rcases hy with ⟨b, o, c, h1, _⟩ | ⟨h1, a, c, h2⟩
    · exact ⟨_, _, _, h1, rfl⟩
    · exact ⟨_, _, _, h2, by rw [h1]; rfl⟩
  subst evx evy
  have HX := Lib.hid hx
  have HY := Lib.hid hy
  have HN := Lib.hid (And.intro hnx hny)
  unfold curveErr at hR
  dsimp only at hR
  rw [hnx, hny] at hR
  have HR := Lib.hid hR
  clear hx hy hnx hny hR
  by_cases hk : k ≠ 1 ∧ k ≠ 2
  · obtain ⟨k1, k2⟩ := hk
    go_enter Tryz.func82, Tryz.ntmps82
    go_wp2_with fail
    go_ret
    exact ⟨ret_int' (by have h := HR.out; rw [if_pos ⟨k1, k2⟩] at h; exact h), bnew (Below.refl _ _)⟩
  · have H1 : Hid ((if nx ≠ ny ∨ nx < 2 ∨ 32 < nx then (2 : Int) else if xs.all isNum = false ∨ ys.all isNum = false then 2 else if risesF xs then 0 else 8) = R) := Lib.hid (by have h := HR.out; rw [if_neg hk] at h; exact h)
    clear HR
    have hkk : k = 1 ∨ k = 2 := by omega
    clear hk
    rcases hkk with rfl | rfl
    · by_cases c1 : nx = ny
      · subst c1
        by_cases c2 : nx < 2
        · have c2i : (nx : Int) < 2 := by omega
          go_enter Tryz.func82, Tryz.ntmps82
          go_wp2_with fail
          go_ret
          exact ⟨ret_int' (by have h := H1.out; rw [if_pos (.inr (.inl c2))] at h; exact h), bnew (Below.refl _ _)⟩
        · have c2i : ¬ (nx : Int) < 2 := by omega
          by_cases c3 : 32 < nx
          · have c3i : (nx : Int) > 32 := by omega
            go_enter Tryz.func82, Tryz.ntmps82
            go_wp2_with fail
            go_ret
            exact ⟨ret_int' (by have h := H1.out; rw [if_pos (.inr (.inr c3))] at h; exact h), bnew (Below.refl _ _)⟩
          · have H2 : Hid ((if xs.all isNum = false ∨ ys.all isNum = false then (2 : Int) else if risesF xs then 0 else 8) = R) := Lib.hid (by have h := H1.out; rw [if_neg (by omega)] at h; exact h)
            clear H1
            have c3i : ¬ (nx : Int) > 32 := by omega
            have hb : 2 ≤ nx ∧ nx ≤ 32 := by omega
            clear c2 c3
            obtain ⟨bx, ox, cx', ex, _, RX⟩ := (HX.out.resolve_right (fun h => by have h1 := HN.out.1; rw [h.1] at h1; simp at h1; omega))
            obtain ⟨bv, oy, cy', ey, _, RY⟩ := (HY.out.resolve_right (fun h => by have h1 := HN.out.2; rw [h.1] at h1; simp at h1; omega))
            injection ex with ex1 ex2 ex3
            injection ey with ey1 ey2 ey3
            subst ex1 ey1 ex3 ey3
            have HRX := Lib.hid RX
            have HRY := Lib.hid RY
            clear RX RY ex2 ey2 HX HY
            go_enter Tryz.func82, Tryz.ntmps82
            go_wp2_with fail
            refine (num_AllAt xs _ _ _ _ _ HN.out.1 (by omega) (HRX.out.keep (bnew (Below.refl _ _)))).mono ?_
            rintro e w2 ⟨rfl, hb2⟩
            have B2 : Hid (Below W.heap.size W w2) := Lib.hid (bcall (bnew (Below.refl _ _)) hb2)
            have X2 : Hid (Bx w2 W.heap.size 39 #[.int .i64 1, .slice (some ⟨bx, ox, none⟩) nx cx, .slice (some ⟨bv, oy, none⟩) nx cy]) := Lib.hid ((Bx.new W _ _).keep hb2)
            have q2 := X2.out.all.1 2
            simp only [List.getElem?_toArray, List.getElem?_cons_zero, List.getElem?_cons_succ] at q2
            clear hb2
            cases hax : xs.all isNum
            · have HA := Lib.hid hax
              clear hax
              go_wp2_with fail
              go_ret
              exact ⟨ret_int' (by have h := H2.out; rw [if_pos (.inl HA.out)] at h; exact h), B2.out⟩
            · have HA := Lib.hid hax
              clear hax
              go_wp2_with fail
              refine (num_AllAt ys _ _ _ _ _ HN.out.2 (by omega) (HRY.out.keep B2.out)).mono ?_
              rintro e w3 ⟨rfl, hb3⟩
              have B3 : Hid (Below W.heap.size W w3) := Lib.hid (bcall B2.out hb3)
              have X3 := Lib.hid (X2.out.keep hb3)
              clear hb3 q2
              cases hay : ys.all isNum
              · have HA2 := Lib.hid hay
                clear hay
                go_wp2_with fail
                go_ret
                exact ⟨ret_int' (by have h := H2.out; rw [if_pos (.inr HA2.out)] at h; exact h), B3.out⟩
              · have H3 : Hid ((if risesF xs then (0 : Int) else 8) = R) := Lib.hid (by have h := H2.out; rw [if_neg (by rw [HA.out, hay]; decide)] at h; exact h)
                clear hay HA H2
                go_wp2_with fail
                go_loopw [3] (fun i wr => ∃ u : Nat, u + 1 ≤ nx ∧ i = .int .i64 ((u : Int) + 1) ∧ Hid (risesTo xs u = true) ∧ Hid (Below w3.heap.size w3 wr)) (fun i _ => nx - (RowKit.intOf i).toNat)
                case atStart => exact ⟨0, by omega, rfl, Lib.hid rfl, Lib.hid (Below.refl _ _)⟩
                case round =>
                  obtain ⟨u, hu, rfl, HT, HB⟩ := hrel
                  have q1 := (X3.out.keep HB.out).all.1 1
                  simp only [List.getElem?_toArray, List.getElem?_cons_zero, List.getElem?_cons_succ] at q1
                  by_cases hlt : u + 1 < nx
                  · obtain ⟨x, hx⟩ : ∃ x, xs.getD u 0 = x := ⟨_, rfl⟩
                    obtain ⟨y, hy⟩ : ∃ y, xs.getD (u + 1) 0 = y := ⟨_, rfl⟩
                    have qx := (HRX.out.keep (B3.out.trans (HB.out.mono B3.out.size))).cell u (by have := HN.out.1; omega)
                    have qy := (HRX.out.keep (B3.out.trans (HB.out.mono B3.out.size))).cell (u + 1) (by have := HN.out.1; omega)
                    rw [hx] at qx
                    rw [hy] at qy
                    have hw1 : IntKind.i64.wrap ((u : Int) + 1 - 1) = (u : Int) := by rw [IntKind.wrap_i64]; omega
                    have hd1 : decide ((u : Int) + 1 < (nx : Int)) = true := decide_eq_true (by omega)
                    have HS : Hid (risesTo xs (u + 1) = (FloatKind.f32.format.order x y == some .lt)) := Lib.hid (by rw [risesTo_succ, HT.out, hx, hy]; rfl)
                    have HS2 : Hid ((FloatKind.f32.format.order x y == some .lt) = false → risesF xs = false) := Lib.hid (fun h => risesF_stop xs u (by have := HN.out.1; omega) (by rw [hx, hy]; exact h))
                    clear hx hy
                    cases hz : (FloatKind.f32.format.order y x == some .gt)
                    · have HZ : Hid ((FloatKind.f32.format.order x y == some .lt) = false) := Lib.hid (by rw [← order_flip]; exact hz)
                      have HW := Lib.hid (B3.out.trans (HB.out.mono B3.out.size))
                      go_wp2_with fail
                      go_quiet (fail)
                      go_wp2_with fail
                      go_ret
                      exact ⟨ret_int' (by have h := H3.out; rw [HS2.out HZ.out] at h; exact h), bdrew HW.out⟩
                    · have HZ : Hid ((FloatKind.f32.format.order x y == some .lt) = true) := Lib.hid (by rw [← order_flip]; exact hz)
                      go_wp2_with fail
                      go_quiet (fail)
                      go_wp2_with fail
                      go_roundw
                      case rel => exact ⟨u + 1, by omega, by go_num, Lib.hid (by rw [HS.out, HZ.out]), Lib.hid (below_drewN HB.out _)⟩
                      case measure => simp [RowKit.intOf]; omega
                  · have hd1 : decide ((u : Int) + 1 < (nx : Int)) = false := decide_eq_false (by omega)
                    have HF : Hid (risesF xs = true) := Lib.hid (by unfold risesF; rw [HN.out.1, show nx - 1 = u by omega]; exact HT.out)
                    have HW := Lib.hid (B3.out.trans (HB.out.mono B3.out.size))
                    go_wp2_with fail
                    go_ret
                    exact ⟨ret_int' (by have h := H3.out; rw [HF.out] at h; exact h), HW.out⟩
      · have c1i : ¬ (nx : Int) = (ny : Int) := by omega
        go_enter Tryz.func82, Tryz.ntmps82
        go_wp2_with fail
        go_ret
        exact ⟨ret_int' (by have h := H1.out; rw [if_pos (.inl c1)] at h; exact h), bnew (Below.refl _ _)⟩
    · by_cases c1 : nx = ny
      · subst c1
        by_cases c2 : nx < 2
        · have c2i : (nx : Int) < 2 := by omega
          go_enter Tryz.func82, Tryz.ntmps82
          go_wp2_with fail
          go_ret
          exact ⟨ret_int' (by have h := H1.out; rw [if_pos (.inr (.inl c2))] at h; exact h), bnew (Below.refl _ _)⟩
        · have c2i : ¬ (nx : Int) < 2 := by omega
          by_cases c3 : 32 < nx
          · have c3i : (nx : Int) > 32 := by omega
            go_enter Tryz.func82, Tryz.ntmps82
            go_wp2_with fail
            go_ret
            exact ⟨ret_int' (by have h := H1.out; rw [if_pos (.inr (.inr c3))] at h; exact h), bnew (Below.refl _ _)⟩
          · have H2 : Hid ((if xs.all isNum = false ∨ ys.all isNum = false then (2 : Int) else if risesF xs then 0 else 8) = R) := Lib.hid (by have h := H1.out; rw [if_neg (by omega)] at h; exact h)
            clear H1
            have c3i : ¬ (nx : Int) > 32 := by omega
            have hb : 2 ≤ nx ∧ nx ≤ 32 := by omega
            clear c2 c3
            obtain ⟨bx, ox, cx', ex, _, RX⟩ := (HX.out.resolve_right (fun h => by have h1 := HN.out.1; rw [h.1] at h1; simp at h1; omega))
            obtain ⟨bv, oy, cy', ey, _, RY⟩ := (HY.out.resolve_right (fun h => by have h1 := HN.out.2; rw [h.1] at h1; simp at h1; omega))
            injection ex with ex1 ex2 ex3
            injection ey with ey1 ey2 ey3
            subst ex1 ey1 ex3 ey3
            have HRX := Lib.hid RX
            have HRY := Lib.hid RY
            clear RX RY ex2 ey2 HX HY
            go_enter Tryz.func82, Tryz.ntmps82
            go_wp2_with fail
            refine (num_AllAt xs _ _ _ _ _ HN.out.1 (by omega) (HRX.out.keep (bnew (Below.refl _ _)))).mono ?_
            rintro e w2 ⟨rfl, hb2⟩
            have B2 : Hid (Below W.heap.size W w2) := Lib.hid (bcall (bnew (Below.refl _ _)) hb2)
            have X2 : Hid (Bx w2 W.heap.size 39 #[.int .i64 2, .slice (some ⟨bx, ox, none⟩) nx cx, .slice (some ⟨bv, oy, none⟩) nx cy]) := Lib.hid ((Bx.new W _ _).keep hb2)
            have q2 := X2.out.all.1 2
            simp only [List.getElem?_toArray, List.getElem?_cons_zero, List.getElem?_cons_succ] at q2
            clear hb2
            cases hax : xs.all isNum
            · have HA := Lib.hid hax
              clear hax
              go_wp2_with fail
              go_ret
              exact ⟨ret_int' (by have h := H2.out; rw [if_pos (.inl HA.out)] at h; exact h), B2.out⟩
            · have HA := Lib.hid hax
              clear hax
              go_wp2_with fail
              refine (num_AllAt ys _ _ _ _ _ HN.out.2 (by omega) (HRY.out.keep B2.out)).mono ?_
              rintro e w3 ⟨rfl, hb3⟩
              have B3 : Hid (Below W.heap.size W w3) := Lib.hid (bcall B2.out hb3)
              have X3 := Lib.hid (X2.out.keep hb3)
              clear hb3 q2
              cases hay : ys.all isNum
              · have HA2 := Lib.hid hay
                clear hay
                go_wp2_with fail
                go_ret
                exact ⟨ret_int' (by have h := H2.out; rw [if_pos (.inr HA2.out)] at h; exact h), B3.out⟩
              · have H3 : Hid ((if risesF xs then (0 : Int) else 8) = R) := Lib.hid (by have h := H2.out; rw [if_neg (by rw [HA.out, hay]; decide)] at h; exact h)
                clear hay HA H2
                go_wp2_with fail
                go_loopw [3] (fun i wr => ∃ u : Nat, u + 1 ≤ nx ∧ i = .int .i64 ((u : Int) + 1) ∧ Hid (risesTo xs u = true) ∧ Hid (Below w3.heap.size w3 wr)) (fun i _ => nx - (RowKit.intOf i).toNat)
                case atStart => exact ⟨0, by omega, rfl, Lib.hid rfl, Lib.hid (Below.refl _ _)⟩
                case round =>
                  obtain ⟨u, hu, rfl, HT, HB⟩ := hrel
                  have q1 := (X3.out.keep HB.out).all.1 1
                  simp only [List.getElem?_toArray, List.getElem?_cons_zero, List.getElem?_cons_succ] at q1
                  by_cases hlt : u + 1 < nx
                  · obtain ⟨x, hx⟩ : ∃ x, xs.getD u 0 = x := ⟨_, rfl⟩
                    obtain ⟨y, hy⟩ : ∃ y, xs.getD (u + 1) 0 = y := ⟨_, rfl⟩
                    have qx := (HRX.out.keep (B3.out.trans (HB.out.mono B3.out.size))).cell u (by have := HN.out.1; omega)
                    have qy := (HRX.out.keep (B3.out.trans (HB.out.mono B3.out.size))).cell (u + 1) (by have := HN.out.1; omega)
                    rw [hx] at qx
                    rw [hy] at qy
                    have hw1 : IntKind.i64.wrap ((u : Int) + 1 - 1) = (u : Int) := by rw [IntKind.wrap_i64]; omega
                    have hd1 : decide ((u : Int) + 1 < (nx : Int)) = true := decide_eq_true (by omega)
                    have HS : Hid (risesTo xs (u + 1) = (FloatKind.f32.format.order x y == some .lt)) := Lib.hid (by rw [risesTo_succ, HT.out, hx, hy]; rfl)
                    have HS2 : Hid ((FloatKind.f32.format.order x y == some .lt) = false → risesF xs = false) := Lib.hid (fun h => risesF_stop xs u (by have := HN.out.1; omega) (by rw [hx, hy]; exact h))
                    clear hx hy
                    cases hz : (FloatKind.f32.format.order y x == some .gt)
                    · have HZ : Hid ((FloatKind.f32.format.order x y == some .lt) = false) := Lib.hid (by rw [← order_flip]; exact hz)
                      have HW := Lib.hid (B3.out.trans (HB.out.mono B3.out.size))
                      go_wp2_with fail
                      go_quiet (fail)
                      go_wp2_with fail
                      go_ret
                      exact ⟨ret_int' (by have h := H3.out; rw [HS2.out HZ.out] at h; exact h), bdrew HW.out⟩
                    · have HZ : Hid ((FloatKind.f32.format.order x y == some .lt) = true) := Lib.hid (by rw [← order_flip]; exact hz)
                      go_wp2_with fail
                      go_quiet (fail)
                      go_wp2_with fail
                      go_roundw
                      case rel => exact ⟨u + 1, by omega, by go_num, Lib.hid (by rw [HS.out, HZ.out]), Lib.hid (below_drewN HB.out _)⟩
                      case measure => simp [RowKit.intOf]; omega
                  · have hd1 : decide ((u : Int) + 1 < (nx : Int)) = false := decide_eq_false (by omega)
                    have HF : Hid (risesF xs = true) := Lib.hid (by unfold risesF; rw [HN.out.1, show nx - 1 = u by omega]; exact HT.out)
                    have HW := Lib.hid (B3.out.trans (HB.out.mono B3.out.size))
                    go_wp2_with fail
                    go_ret
                    exact ⟨ret_int' (by have h := H3.out; rw [HF.out] at h; exact h), HW.out⟩
      · have c1i : ¬ (nx : Int) = (ny : Int) := by omega
        go_enter Tryz.func82, Tryz.ntmps82
        go_wp2_with fail
        go_ret
        exact ⟨ret_int' (by have h := H1.out; rw [if_pos (.inl c1)] at h; exact h), bnew (Below.refl _ _)⟩
set_option maxRecDepth 100000 in
set_option maxHeartbeats 16000000 in
theorem ref_CurveError (c : Cv) (vx vy : Value) (W : World) (hx : Sl W vx c.xs) (hy : Sl W vy c.ys) : Calls Tryz.prog 71 #[.agg #[.int .i64 c.kind, vx, vy]] W fun e w' => e = .returned (.int .i64 (curveErr c)) ∧ Below W.heap.size W w' := by
  obtain ⟨k, xs, ys⟩ := c
  dsimp only at hx hy ⊢
  obtain ⟨R, hR⟩ : ∃ R : Int, curveErr ⟨k, xs, ys⟩ = R := ⟨_, rfl⟩
  rw [hR]
  obtain ⟨ax, nx, cx, evx, hnx⟩ : ∃ a n c, vx = .slice a n c ∧ xs.length = n := by
    rcases hx with ⟨b, o, c, h1, _⟩ | ⟨h1, a, c, h2⟩
    · exact ⟨_, _, _, h1, rfl⟩
    · exact ⟨_, _, _, h2, by rw [h1]; rfl⟩
  obtain ⟨ay, ny, cy, evy, hny⟩ : ∃ a n c, vy = .slice a n c ∧ ys.length = n := by
    rcases hy with ⟨b, o, c, h1, _⟩ | ⟨h1, a, c, h2⟩
    · exact ⟨_, _, _, h1, rfl⟩
    · exact ⟨_, _, _, h2, by rw [h1]; rfl⟩
  subst evx evy
  have HX := Lib.hid hx
  have HY := Lib.hid hy
  have HN := Lib.hid (And.intro hnx hny)
  unfold curveErr at hR
  dsimp only at hR
  rw [hnx, hny] at hR
  have HR := Lib.hid hR
  clear hx hy hnx hny hR
  by_cases hk : k ≠ 1 ∧ k ≠ 2
  · obtain ⟨k1, k2⟩ := hk
    go_enter Tryz.func71, Tryz.ntmps71
    go_wp2_with fail
    go_ret
    exact ⟨ret_int' (by have h := HR.out; rw [if_pos ⟨k1, k2⟩] at h; exact h), bnew (Below.refl _ _)⟩
  · have H1 : Hid ((if nx ≠ ny ∨ nx < 2 ∨ 32 < nx then (2 : Int) else if xs.all isNum = false ∨ ys.all isNum = false then 2 else if risesF xs then 0 else 8) = R) := Lib.hid (by have h := HR.out; rw [if_neg hk] at h; exact h)
    clear HR
    have hkk : k = 1 ∨ k = 2 := by omega
    clear hk
    rcases hkk with rfl | rfl
    · by_cases c1 : nx = ny
      · subst c1
        by_cases c2 : nx < 2
        · have c2i : (nx : Int) < 2 := by omega
          go_enter Tryz.func71, Tryz.ntmps71
          go_wp2_with fail
          go_ret
          exact ⟨ret_int' (by have h := H1.out; rw [if_pos (.inr (.inl c2))] at h; exact h), bnew (Below.refl _ _)⟩
        · have c2i : ¬ (nx : Int) < 2 := by omega
          by_cases c3 : 32 < nx
          · have c3i : (nx : Int) > 32 := by omega
            go_enter Tryz.func71, Tryz.ntmps71
            go_wp2_with fail
            go_ret
            exact ⟨ret_int' (by have h := H1.out; rw [if_pos (.inr (.inr c3))] at h; exact h), bnew (Below.refl _ _)⟩
          · have H2 : Hid ((if xs.all isNum = false ∨ ys.all isNum = false then (2 : Int) else if risesF xs then 0 else 8) = R) := Lib.hid (by have h := H1.out; rw [if_neg (by omega)] at h; exact h)
            clear H1
            have c3i : ¬ (nx : Int) > 32 := by omega
            have hb : 2 ≤ nx ∧ nx ≤ 32 := by omega
            clear c2 c3
            obtain ⟨bx, ox, cx', ex, _, RX⟩ := (HX.out.resolve_right (fun h => by have h1 := HN.out.1; rw [h.1] at h1; simp at h1; omega))
            obtain ⟨bv, oy, cy', ey, _, RY⟩ := (HY.out.resolve_right (fun h => by have h1 := HN.out.2; rw [h.1] at h1; simp at h1; omega))
            injection ex with ex1 ex2 ex3
            injection ey with ey1 ey2 ey3
            subst ex1 ey1 ex3 ey3
            have HRX := Lib.hid RX
            have HRY := Lib.hid RY
            clear RX RY ex2 ey2 HX HY
            go_enter Tryz.func71, Tryz.ntmps71
            go_wp2_with fail
            refine (ref_AllAt xs _ _ _ _ _ HN.out.1 (by omega) (HRX.out.keep (bnew (Below.refl _ _)))).mono ?_
            rintro e w2 ⟨rfl, hb2⟩
            have B2 : Hid (Below W.heap.size W w2) := Lib.hid (bcall (bnew (Below.refl _ _)) hb2)
            have X2 : Hid (Bx w2 W.heap.size 39 #[.int .i64 1, .slice (some ⟨bx, ox, none⟩) nx cx, .slice (some ⟨bv, oy, none⟩) nx cy]) := Lib.hid ((Bx.new W _ _).keep hb2)
            have q2 := X2.out.all.1 2
            simp only [List.getElem?_toArray, List.getElem?_cons_zero, List.getElem?_cons_succ] at q2
            clear hb2
            cases hax : xs.all isNum
            · have HA := Lib.hid hax
              clear hax
              go_wp2_with fail
              go_ret
              exact ⟨ret_int' (by have h := H2.out; rw [if_pos (.inl HA.out)] at h; exact h), B2.out⟩
            · have HA := Lib.hid hax
              clear hax
              go_wp2_with fail
              refine (ref_AllAt ys _ _ _ _ _ HN.out.2 (by omega) (HRY.out.keep B2.out)).mono ?_
              rintro e w3 ⟨rfl, hb3⟩
              have B3 : Hid (Below W.heap.size W w3) := Lib.hid (bcall B2.out hb3)
              have X3 := Lib.hid (X2.out.keep hb3)
              clear hb3 q2
              cases hay : ys.all isNum
              · have HA2 := Lib.hid hay
                clear hay
                go_wp2_with fail
                go_ret
                exact ⟨ret_int' (by have h := H2.out; rw [if_pos (.inr HA2.out)] at h; exact h), B3.out⟩
              · have H3 : Hid ((if risesF xs then (0 : Int) else 8) = R) := Lib.hid (by have h := H2.out; rw [if_neg (by rw [HA.out, hay]; decide)] at h; exact h)
                clear hay HA H2
                obtain ⟨m, hm⟩ : ∃ m, nx = m + 1 := ⟨nx - 1, by omega⟩
                have hwm : IntKind.i64.wrap ((nx : Int) - 1) = (m : Int) := by rw [IntKind.wrap_i64]; omega
                have q1 := X3.out.all.1 1
                simp only [List.getElem?_toArray, List.getElem?_cons_zero, List.getElem?_cons_succ] at q1
                go_wp2_with fail
                go_loopw [48] (fun i wr => ∃ u : Nat, u + 1 ≤ nx ∧ i = .int .i64 (u : Int) ∧ Hid (risesTo xs u = true) ∧ Hid (Below w3.heap.size w3 wr)) (fun i _ => nx - (RowKit.intOf i).toNat)
                case atStart => exact ⟨0, by omega, rfl, Lib.hid rfl, Lib.hid (Below.refl _ _)⟩
                case round =>
                  obtain ⟨u, hu, rfl, HT, HB⟩ := hrel
                  have q1 := (X3.out.keep HB.out).all.1 1
                  simp only [List.getElem?_toArray, List.getElem?_cons_zero, List.getElem?_cons_succ] at q1
                  by_cases hlt : u + 1 < nx
                  · obtain ⟨x, hx⟩ : ∃ x, xs.getD u 0 = x := ⟨_, rfl⟩
                    obtain ⟨y, hy⟩ : ∃ y, xs.getD (u + 1) 0 = y := ⟨_, rfl⟩
                    have qx := (HRX.out.keep (B3.out.trans (HB.out.mono B3.out.size))).cell u (by have := HN.out.1; omega)
                    have qy := (HRX.out.keep (B3.out.trans (HB.out.mono B3.out.size))).cell (u + 1) (by have := HN.out.1; omega)
                    rw [hx] at qx
                    rw [hy] at qy
                    have hw1 : IntKind.i64.wrap ((u : Int) + 1) = (u : Int) + 1 := by rw [IntKind.wrap_i64]; omega
                    have hd1 : decide ((u : Int) < (m : Int)) = true := decide_eq_true (by omega)
                    have HS : Hid (risesTo xs (u + 1) = (FloatKind.f32.format.order x y == some .lt)) := Lib.hid (by rw [risesTo_succ, HT.out, hx, hy]; rfl)
                    have HS2 : Hid ((FloatKind.f32.format.order x y == some .lt) = false → risesF xs = false) := Lib.hid (fun h => risesF_stop xs u (by have := HN.out.1; omega) (by rw [hx, hy]; exact h))
                    clear hx hy
                    cases hz : (FloatKind.f32.format.order x y == some .lt)
                    · have HZ : Hid ((FloatKind.f32.format.order x y == some .lt) = false) := Lib.hid (hz)
                      have HW := Lib.hid (B3.out.trans (HB.out.mono B3.out.size))
                      go_wp2_with fail
                      go_quiet (fail)
                      go_wp2_with fail
                      go_ret
                      exact ⟨ret_int' (by have h := H3.out; rw [HS2.out HZ.out] at h; exact h), bdrew HW.out⟩
                    · have HZ : Hid ((FloatKind.f32.format.order x y == some .lt) = true) := Lib.hid (hz)
                      go_wp2_with fail
                      go_quiet (fail)
                      go_wp2_with fail
                      go_roundw
                      case rel => exact ⟨u + 1, by omega, by go_num, Lib.hid (by rw [HS.out, HZ.out]), Lib.hid (below_drewN HB.out _)⟩
                      case measure => simp [RowKit.intOf]; omega
                  · have hd1 : decide ((u : Int) < (m : Int)) = false := decide_eq_false (by omega)
                    have HF : Hid (risesF xs = true) := Lib.hid (by unfold risesF; rw [HN.out.1, show nx - 1 = u by omega]; exact HT.out)
                    have HW := Lib.hid (B3.out.trans (HB.out.mono B3.out.size))
                    go_wp2_with fail
                    go_ret
                    exact ⟨ret_int' (by have h := H3.out; rw [HF.out] at h; exact h), HW.out⟩
      · have c1i : ¬ (nx : Int) = (ny : Int) := by omega
        go_enter Tryz.func71, Tryz.ntmps71
        go_wp2_with fail
        go_ret
        exact ⟨ret_int' (by have h := H1.out; rw [if_pos (.inl c1)] at h; exact h), bnew (Below.refl _ _)⟩
    · by_cases c1 : nx = ny
      · subst c1
        by_cases c2 : nx < 2
        · have c2i : (nx : Int) < 2 := by omega
          go_enter Tryz.func71, Tryz.ntmps71
          go_wp2_with fail
          go_ret
          exact ⟨ret_int' (by have h := H1.out; rw [if_pos (.inr (.inl c2))] at h; exact h), bnew (Below.refl _ _)⟩
        · have c2i : ¬ (nx : Int) < 2 := by omega
          by_cases c3 : 32 < nx
          · have c3i : (nx : Int) > 32 := by omega
            go_enter Tryz.func71, Tryz.ntmps71
            go_wp2_with fail
            go_ret
            exact ⟨ret_int' (by have h := H1.out; rw [if_pos (.inr (.inr c3))] at h; exact h), bnew (Below.refl _ _)⟩
          · have H2 : Hid ((if xs.all isNum = false ∨ ys.all isNum = false then (2 : Int) else if risesF xs then 0 else 8) = R) := Lib.hid (by have h := H1.out; rw [if_neg (by omega)] at h; exact h)
            clear H1
            have c3i : ¬ (nx : Int) > 32 := by omega
            have hb : 2 ≤ nx ∧ nx ≤ 32 := by omega
            clear c2 c3
            obtain ⟨bx, ox, cx', ex, _, RX⟩ := (HX.out.resolve_right (fun h => by have h1 := HN.out.1; rw [h.1] at h1; simp at h1; omega))
            obtain ⟨bv, oy, cy', ey, _, RY⟩ := (HY.out.resolve_right (fun h => by have h1 := HN.out.2; rw [h.1] at h1; simp at h1; omega))
            injection ex with ex1 ex2 ex3
            injection ey with ey1 ey2 ey3
            subst ex1 ey1 ex3 ey3
            have HRX := Lib.hid RX
            have HRY := Lib.hid RY
            clear RX RY ex2 ey2 HX HY
            go_enter Tryz.func71, Tryz.ntmps71
            go_wp2_with fail
            refine (ref_AllAt xs _ _ _ _ _ HN.out.1 (by omega) (HRX.out.keep (bnew (Below.refl _ _)))).mono ?_
            rintro e w2 ⟨rfl, hb2⟩
            have B2 : Hid (Below W.heap.size W w2) := Lib.hid (bcall (bnew (Below.refl _ _)) hb2)
            have X2 : Hid (Bx w2 W.heap.size 39 #[.int .i64 2, .slice (some ⟨bx, ox, none⟩) nx cx, .slice (some ⟨bv, oy, none⟩) nx cy]) := Lib.hid ((Bx.new W _ _).keep hb2)
            have q2 := X2.out.all.1 2
            simp only [List.getElem?_toArray, List.getElem?_cons_zero, List.getElem?_cons_succ] at q2
            clear hb2
            cases hax : xs.all isNum
            · have HA := Lib.hid hax
              clear hax
              go_wp2_with fail
              go_ret
              exact ⟨ret_int' (by have h := H2.out; rw [if_pos (.inl HA.out)] at h; exact h), B2.out⟩
            · have HA := Lib.hid hax
              clear hax
              go_wp2_with fail
              refine (ref_AllAt ys _ _ _ _ _ HN.out.2 (by omega) (HRY.out.keep B2.out)).mono ?_
              rintro e w3 ⟨rfl, hb3⟩
              have B3 : Hid (Below W.heap.size W w3) := Lib.hid (bcall B2.out hb3)
              have X3 := Lib.hid (X2.out.keep hb3)
              clear hb3 q2
              cases hay : ys.all isNum
              · have HA2 := Lib.hid hay
                clear hay
                go_wp2_with fail
                go_ret
                exact ⟨ret_int' (by have h := H2.out; rw [if_pos (.inr HA2.out)] at h; exact h), B3.out⟩
              · have H3 : Hid ((if risesF xs then (0 : Int) else 8) = R) := Lib.hid (by have h := H2.out; rw [if_neg (by rw [HA.out, hay]; decide)] at h; exact h)
                clear hay HA H2
                obtain ⟨m, hm⟩ : ∃ m, nx = m + 1 := ⟨nx - 1, by omega⟩
                have hwm : IntKind.i64.wrap ((nx : Int) - 1) = (m : Int) := by rw [IntKind.wrap_i64]; omega
                have q1 := X3.out.all.1 1
                simp only [List.getElem?_toArray, List.getElem?_cons_zero, List.getElem?_cons_succ] at q1
                go_wp2_with fail
                go_loopw [48] (fun i wr => ∃ u : Nat, u + 1 ≤ nx ∧ i = .int .i64 (u : Int) ∧ Hid (risesTo xs u = true) ∧ Hid (Below w3.heap.size w3 wr)) (fun i _ => nx - (RowKit.intOf i).toNat)
                case atStart => exact ⟨0, by omega, rfl, Lib.hid rfl, Lib.hid (Below.refl _ _)⟩
                case round =>
                  obtain ⟨u, hu, rfl, HT, HB⟩ := hrel
                  have q1 := (X3.out.keep HB.out).all.1 1
                  simp only [List.getElem?_toArray, List.getElem?_cons_zero, List.getElem?_cons_succ] at q1
                  by_cases hlt : u + 1 < nx
                  · obtain ⟨x, hx⟩ : ∃ x, xs.getD u 0 = x := ⟨_, rfl⟩
                    obtain ⟨y, hy⟩ : ∃ y, xs.getD (u + 1) 0 = y := ⟨_, rfl⟩
                    have qx := (HRX.out.keep (B3.out.trans (HB.out.mono B3.out.size))).cell u (by have := HN.out.1; omega)
                    have qy := (HRX.out.keep (B3.out.trans (HB.out.mono B3.out.size))).cell (u + 1) (by have := HN.out.1; omega)
                    rw [hx] at qx
                    rw [hy] at qy
                    have hw1 : IntKind.i64.wrap ((u : Int) + 1) = (u : Int) + 1 := by rw [IntKind.wrap_i64]; omega
                    have hd1 : decide ((u : Int) < (m : Int)) = true := decide_eq_true (by omega)
                    have HS : Hid (risesTo xs (u + 1) = (FloatKind.f32.format.order x y == some .lt)) := Lib.hid (by rw [risesTo_succ, HT.out, hx, hy]; rfl)
                    have HS2 : Hid ((FloatKind.f32.format.order x y == some .lt) = false → risesF xs = false) := Lib.hid (fun h => risesF_stop xs u (by have := HN.out.1; omega) (by rw [hx, hy]; exact h))
                    clear hx hy
                    cases hz : (FloatKind.f32.format.order x y == some .lt)
                    · have HZ : Hid ((FloatKind.f32.format.order x y == some .lt) = false) := Lib.hid (hz)
                      have HW := Lib.hid (B3.out.trans (HB.out.mono B3.out.size))
                      go_wp2_with fail
                      go_quiet (fail)
                      go_wp2_with fail
                      go_ret
                      exact ⟨ret_int' (by have h := H3.out; rw [HS2.out HZ.out] at h; exact h), bdrew HW.out⟩
                    · have HZ : Hid ((FloatKind.f32.format.order x y == some .lt) = true) := Lib.hid (hz)
                      go_wp2_with fail
                      go_quiet (fail)
                      go_wp2_with fail
                      go_roundw
                      case rel => exact ⟨u + 1, by omega, by go_num, Lib.hid (by rw [HS.out, HZ.out]), Lib.hid (below_drewN HB.out _)⟩
                      case measure => simp [RowKit.intOf]; omega
                  · have hd1 : decide ((u : Int) < (m : Int)) = false := decide_eq_false (by omega)
                    have HF : Hid (risesF xs = true) := Lib.hid (by unfold risesF; rw [HN.out.1, show nx - 1 = u by omega]; exact HT.out)
                    have HW := Lib.hid (B3.out.trans (HB.out.mono B3.out.size))
                    go_wp2_with fail
                    go_ret
                    exact ⟨ret_int' (by have h := H3.out; rw [HF.out] at h; exact h), HW.out⟩
      · have c1i : ¬ (nx : Int) = (ny : Int) := by omega
        go_enter Tryz.func71, Tryz.ntmps71
        go_wp2_with fail
        go_ret
        exact ⟨ret_int' (by have h := H1.out; rw [if_pos (.inl c1)] at h; exact h), bnew (Below.refl _ _)⟩
end Go.Proofs.YticekgnmiaidjaaGreatDoor
