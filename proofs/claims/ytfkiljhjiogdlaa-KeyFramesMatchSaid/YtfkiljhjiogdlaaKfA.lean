/- dyeref1.WindowError. (printed by gen_kfa.py) -/
import Derived.Test.YtfkiljhjiogdlaaWnD
namespace Go.Proofs.Ytfkiljhjiogdlaa
open Go.RowKit

theorem ord_some {a b : Nat} (ha : isNum a = true) (hb : isNum b = true) : ∃ o, FloatKind.f32.format.order a b = some o := by
  show ∃ o, (rd a).order (rd b) = some o
  unfold isNum at ha hb
  cases h1 : rd a with
  | nan s m => rw [h1] at ha; cases ha
  | infinity s => rw [h1] at ha; cases ha
  | number s m i =>
    cases h2 : rd b with
    | nan s m => rw [h2] at hb; cases hb
    | infinity s => rw [h2] at hb; cases hb
    | number t n j => exact ⟨_, rfl⟩
def geF (a b : Nat) : Bool := FloatKind.f32.format.order a b == some .gt || FloatKind.f32.format.order a b == some .eq
def leF (a b : Nat) : Bool := FloatKind.f32.format.order a b == some .lt || FloatKind.f32.format.order a b == some .eq
def inF (v lo hi : Nat) : Bool := geF v lo && leF v hi
theorem in_out {v lo hi : Nat} (hv : isNum v = true) (hl : isNum lo = true) (hh : isNum hi = true) : inF v lo hi = !outF v lo hi := by
  obtain ⟨a, ha⟩ := ord_some hv hl
  obtain ⟨b, hb⟩ := ord_some hv hh
  unfold inF outF geF leF ltF gtF
  rw [ha, hb]
  cases a <;> cases b <;> rfl
theorem ref_convW (n : Int) (f : Nat) (h : floatOfInt .f32 n = f) (w : World) : Calls Try.prog 41 #[.int .i64 n] w fun e w' => e = .returned (.float .f32 f) ∧ w = w' := by
  subst h
  go_enter Try.func41, Try.ntmps41
  go_wp2_with fail
  go_ret
  exact ⟨rfl, rfl⟩
theorem ref_far (n : Int) (w : World) : Calls Try.prog 47 #[.int .i64 n] w fun e w' => e = .returned (.bool (!plB n)) ∧ w = w' := by
  by_cases h1 : n < -1048576
  · have d1 : decide (n < -1048576) = true := decide_eq_true h1
    rw [show (!plB n) = true by unfold plB; rw [decide_eq_false (by omega)]; rfl]
    go_enter Try.func47, Try.ntmps47
    go_wp2_with fail
    go_ret
    exact ⟨rfl, rfl⟩
  · have d1 : decide (n < -1048576) = false := decide_eq_false h1
    by_cases h2 : 1048576 < n
    · have d2 : decide (1048576 < n) = true := decide_eq_true h2
      rw [show (!plB n) = true by unfold plB; rw [decide_eq_true (show -1048576 ≤ n by omega), decide_eq_false (show ¬ n ≤ 1048576 by omega)]; rfl]
      go_enter Try.func47, Try.ntmps47
      go_wp2_with fail
      go_ret
      exact ⟨rfl, rfl⟩
    · have d2 : decide (1048576 < n) = false := decide_eq_false h2
      rw [show (!plB n) = false by unfold plB; rw [decide_eq_true (show -1048576 ≤ n by omega), decide_eq_true (show n ≤ 1048576 by omega)]; rfl]
      go_enter Try.func47, Try.ntmps47
      go_wp2_with fail
      go_ret
      exact ⟨rfl, rfl⟩
theorem rcheck1 (v : Nat) (lo hi : Int) (l h : Nat) (hl : floatOfInt .f32 lo = l) (hh : floatOfInt .f32 hi = h) (w : World) : Calls Try.prog 78 #[.float .f32 v, .int .i64 lo, .int .i64 hi] w fun e w' => e = .returned (.bool (inF v l h)) ∧ w = w' := by
  have H1 := Lib.hid hl
  have H2 := Lib.hid hh
  clear hl hh
  cases h1 : geF v l
  · unfold inF
    rw [h1]
    have g1 : (FloatKind.f32.format.order v l == some .gt || FloatKind.f32.format.order v l == some .eq) = false := h1
    clear h1
    go_enter Try.func78, Try.ntmps78
    go_wp2_with fail
    refine (ref_convW lo l H1.out _).mono ?_
    rintro e w1 ⟨rfl, rfl⟩
    go_wp2_with fail
    go_ret
    exact ⟨rfl, rfl⟩
  · cases h2 : leF v h
    all_goals
      unfold inF
      rw [h1, h2]
      have g1 : (FloatKind.f32.format.order v l == some .gt || FloatKind.f32.format.order v l == some .eq) = true := h1
      first | have g2 : (FloatKind.f32.format.order v h == some .lt || FloatKind.f32.format.order v h == some .eq) = true := h2 | have g2 : (FloatKind.f32.format.order v h == some .lt || FloatKind.f32.format.order v h == some .eq) = false := h2
      clear h1 h2
      go_enter Try.func78, Try.ntmps78
      go_wp2_with fail
      refine (ref_convW lo l H1.out _).mono ?_
      rintro e w1 ⟨rfl, rfl⟩
      go_wp2_with fail
      refine (ref_convW hi h H2.out _).mono ?_
      rintro e w1 ⟨rfl, rfl⟩
      go_wp2_with fail
      go_ret
      exact ⟨rfl, rfl⟩
theorem rcheck2 (a b : Int) (W : World) : Calls Try.prog 80 #[.agg #[.int .i64 a, .int .i64 b]] W fun e w' => e = .returned (.bool (badP (a, b))) ∧ Below W.heap.size W w' := by
  have hb : badP (a, b) = (!plB a || !plB b) := rfl
  rw [hb]
  cases h1 : plB a
  · go_enter Try.func80, Try.ntmps80
    go_wp2_with fail
    refine (ref_far a _).mono ?_
    rw [h1]
    rintro e w1 ⟨rfl, rfl⟩
    go_wp2_with fail
    go_ret
    exact ⟨rfl, bnew (Below.refl _ W)⟩
  · cases h2 : plB b
    all_goals
      go_enter Try.func80, Try.ntmps80
      go_wp2_with fail
      refine (ref_far a _).mono ?_
      rw [h1]
      rintro e w1 ⟨rfl, rfl⟩
      go_wp2_with fail
      refine (ref_far b _).mono ?_
      rw [h2]
      rintro e w1 ⟨rfl, rfl⟩
      go_wp2_with fail
      go_ret
      exact ⟨rfl, bnew (Below.refl _ W)⟩

set_option maxRecDepth 100000 in
set_option maxHeartbeats 4000000 in
theorem rindex2 (pv : Value) (ps : List (Int × Int)) (W : World) (hs : SlP W pv ps) : Calls Try.prog 101 #[pv, .func (.func 80) #[] #[]] W fun e w' => ∃ i, e = .returned (.int .i64 i) ∧ decide (0 ≤ i) = ps.any badP ∧ Below W.heap.size W w' := by
  obtain ⟨a, c, rfl, hmax, hform⟩ := hs
  unfold maxLen at hmax
  obtain ⟨n, hnn⟩ : ∃ n, n = ps.length := ⟨_, rfl⟩
  rw [← hnn] at hmax ⊢
  have Hn := Lib.hid hnn
  clear hnn
  generalize hres : ps.any badP = res
  have Hres := Lib.hid hres
  clear hres
  go_enter Try.func101, Try.ntmps101
  go_wp2_with fail
  go_loopw [8] (fun i wr => ∃ k : Nat, k ≤ n ∧ i = .int .i64 (k : Int) ∧ Hid ((ps.take k).any badP = false) ∧ Below W.heap.size W wr) (fun i _ => n - (intOf i).toNat)
  case atStart => exact ⟨0, by omega, rfl, Lib.hid (by simp), Below.refl _ _⟩
  case round =>
    obtain ⟨k, hk, rfl, hz, B⟩ := hrel
    by_cases hlt : k < n
    · rcases hform with h0 | ⟨b, o, rfl, hbl, hat⟩
      · exfalso
        have := Hn.out
        rw [h0] at this
        simp at this
        omega
      obtain ⟨z1, z2⟩ := hat k (by rw [← Hn.out]; exact hlt)
      obtain ⟨t1, t2⟩ := any_take ps k (by rw [← Hn.out]; exact hlt) hz.out
      have T := Lib.hid (And.intro t1 t2)
      have e1 : wr.cell? ⟨b, o + k * 2, none⟩ = _ := (B.cell (p := ⟨b, o + k * 2, none⟩) hbl).trans z1
      have e2 : wr.cell? ⟨b, o + k * 2 + 1, none⟩ = _ := (B.cell (p := ⟨b, o + k * 2 + 1, none⟩) hbl).trans z2
      have hpp : ps.getD k default = ((ps.getD k default).1, (ps.getD k default).2) := rfl
      rw [hpp] at T
      generalize (ps.getD k default).1 = px at *
      generalize (ps.getD k default).2 = py at *
      clear hat z1 z2 t1 t2 hpp
      go_wp2_with fail
      refine (rcheck2 px py _).mono ?_
      cases hb : badP (px, py)
      · rintro e w1 ⟨rfl, hb1⟩
        replace B := bcall B hb1
        have hz2 := Lib.hid (T.out.2 hb)
        clear hb1 T hb hz
        go_wp2_with fail
        go_roundw
        case rel => exact ⟨k + 1, by omega, by go_num, hz2, B⟩
        case measure => simp [intOf]; omega
      · rintro e w1 ⟨rfl, hb1⟩
        replace B := bcall B hb1
        obtain rfl : res = true := by rw [← Hres.out]; exact T.out.1 hb
        clear hb1 T hb hz
        go_wp2_with fail
        go_ret
        exact ⟨_, rfl, decide_eq_true (by omega), B⟩
    · obtain rfl : k = n := by omega
      obtain rfl : res = false := by
        have h := hz.out
        rw [Hn.out, List.take_length] at h
        rw [← Hres.out]; exact h
      go_wp2_with fail
      go_ret
      exact ⟨_, rfl, by decide, B⟩
theorem rcontains2 (pv : Value) (ps : List (Int × Int)) (W : World) (hs : SlP W pv ps) : Calls Try.prog 71 #[pv, .func (.func 80) #[] #[]] W fun e w' => e = .returned (.bool (ps.any badP)) ∧ Below W.heap.size W w' := by
  have L := Lib.hid (fun w (h : SlP w pv ps) => rindex2 pv ps w h)
  have HS := Lib.hid hs
  clear hs
  generalize ps.any badP = res at *
  go_enter Try.func71, Try.ntmps71
  go_wp2_with fail
  refine (L.out _ HS.out).mono ?_
  rintro e w1 ⟨i, rfl, hi, B⟩
  go_wp2_with fail
  go_ret
  exact ⟨rfl, B⟩

set_option maxRecDepth 100000 in
set_option maxHeartbeats 8000000 in
theorem ref_WindowError (kind : Int) (X Y Wd H S : Nat) (pv : Value) (ps : List (Int × Int)) (out : Bool) (W : World) (hs : SlP W pv ps) : Calls Try.prog 33 #[.agg #[.int .i64 kind, .float .f32 X, .float .f32 Y, .float .f32 Wd, .float .f32 H, .float .f32 S, pv, .bool out]] W fun e w' => e = .returned (.int .i64 (winErr kind X Y Wd H S ps)) ∧ Below W.heap.size W w' := by
  have HS := Lib.hid hs
  obtain ⟨a, c, rfl, -, -⟩ := hs
  obtain ⟨n, hnn⟩ : ∃ n, n = ps.length := ⟨_, rfl⟩
  rw [← hnn] at HS ⊢
  generalize hres : winErr kind X Y Wd H S ps = res
  have HR := Lib.hid hres
  have Hn := Lib.hid hnn
  clear hres hnn
  go_enter Try.func33, Try.ntmps33
  go_upto_region 1 with fail
  refine name_world ?_
  intro w0 hw0
  have x1 : Bx w0 W.heap.size 25 #[.int .i64 kind, .float .f32 X, .float .f32 Y, .float .f32 Wd, .float .f32 H, .float .f32 S, .slice a n c, .bool out] := by rw [hw0]; exact Bx.new _ _ _
  have B : Below W.heap.size W w0 := by rw [hw0]; exact bnew (Below.refl _ W)
  clear hw0
  obtain ⟨q1, f1, l1⟩ := x1.all
  by_cases hlo : kind < 1
  · obtain rfl : res = 1 := by rw [← HR.out]; unfold winErr; rw [if_pos (by omega)]
    have k1 : decide (kind < 1) = true := decide_eq_true hlo
    have k3 : (kind == 3) = false := beq_eq_false_iff_ne.2 (by omega)
    clear hlo HR
    go_wp2_with fail
    go_ret
    exact ⟨rfl, B⟩
  have k1 : decide (kind < 1) = false := decide_eq_false hlo
  by_cases hhi : 3 < kind
  · obtain rfl : res = 1 := by rw [← HR.out]; unfold winErr; rw [if_pos (by omega)]
    have k2 : decide (3 < kind) = true := decide_eq_true hhi
    have k3 : (kind == 3) = false := beq_eq_false_iff_ne.2 (by omega)
    clear hlo hhi HR
    go_wp2_with fail
    go_ret
    exact ⟨rfl, B⟩
  have k2 : decide (3 < kind) = false := decide_eq_false hhi
  have Hk : Hid (¬ (kind ≠ 1 ∧ kind ≠ 2 ∧ kind ≠ 3)) := Lib.hid (by omega)
  have k0 : (kind = 1 ∧ (kind == 2) = false ∧ (kind == 3) = false) ∨ (kind = 2 ∧ (kind == 2) = true ∧ (kind == 3) = false) ∨ (kind = 3 ∧ (kind == 2) = false ∧ (kind == 3) = true) := by
    rcases (by omega : kind = 1 ∨ kind = 2 ∨ kind = 3) with rfl | rfl | rfl
    · exact .inl ⟨rfl, rfl, rfl⟩
    · exact .inr (.inl ⟨rfl, rfl, rfl⟩)
    · exact .inr (.inr ⟨rfl, rfl, rfl⟩)
  clear hlo hhi
  rcases k0 with ⟨hk, k4, k3⟩ | ⟨hk, k4, k3⟩ | ⟨hk, k4, k3⟩
  · have HK := Lib.hid hk
    clear hk
    go_upto_region 5 with fail
    go_wp2_with fail
    refine name_callw ?_
    intro w1 hw1
    have x5 : Bx w1 w0.heap.size 22 #[.float .f32 X, .float .f32 Y, .float .f32 Wd, .float .f32 H, .float .f32 S] := by rw [hw1]; exact Bx.new _ _ _
    replace x1 : Bx w1 W.heap.size 25 #[.int .i64 kind, .float .f32 X, .float .f32 Y, .float .f32 Wd, .float .f32 H, .float .f32 S, .slice a n c, .bool out] := by rw [hw1]; exact x1.alloc _
    replace B : Below W.heap.size W w1 := by rw [hw1]; exact bnew B
    clear hw1
    refine (ref_Numbers [X, Y, Wd, H, S] _ 5 _ _ rfl (by decide) (rd5 x5)).mono ?_
    rintro e w2 ⟨rfl, hb⟩
    clear x5
    replace x1 := x1.keep hb
    replace B := bcall B hb
    clear hb q1 f1 l1
    obtain ⟨q1, f1, l1⟩ := x1.all
    cases hnum : [X, Y, Wd, H, S].all isNum
    · obtain rfl : res = 2 := by rw [← HR.out]; unfold winErr; rw [if_neg Hk.out, if_pos hnum]
      clear HR HS Hn Hk HK
      go_wp2_with fail
      go_ret
      exact ⟨rfl, B⟩
    have hN := Lib.hid hnum
    have hn5 : isNum X = true ∧ isNum Y = true ∧ isNum Wd = true ∧ isNum H = true ∧ isNum S = true := by simpa using hnum
    obtain ⟨n0, n1, n2, n3, n4⟩ := hn5
    clear hnum
    go_upto_region 7 with fail
    go_wp2_with fail
    refine (rcheck1 X (-1048576) 1048576 3380609024 1233125376 (by decide +kernel) (by decide +kernel) _).mono ?_
    rw [in_out n0 (by decide) (by decide)]
    cases ho0 : outF X 3380609024 1233125376
    rotate_left
    · rintro e w3 ⟨rfl, rfl⟩
      obtain rfl : res = 3 := by rw [← HR.out]; unfold winErr; rw [if_neg Hk.out, if_neg (by rw [hN.out]; simp), if_pos (by simp [ho0])]
      clear HR HS Hn Hk HK
      go_wp2_with fail
      go_ret
      exact ⟨rfl, B⟩
    rintro e w3 ⟨rfl, rfl⟩
    go_wp2_with fail
    refine (rcheck1 Y (-1048576) 1048576 3380609024 1233125376 (by decide +kernel) (by decide +kernel) _).mono ?_
    rw [in_out n1 (by decide) (by decide)]
    cases ho1 : outF Y 3380609024 1233125376
    rotate_left
    · rintro e w3 ⟨rfl, rfl⟩
      obtain rfl : res = 3 := by rw [← HR.out]; unfold winErr; rw [if_neg Hk.out, if_neg (by rw [hN.out]; simp), if_pos (by simp [ho0, ho1])]
      clear HR HS Hn Hk HK
      go_wp2_with fail
      go_ret
      exact ⟨rfl, B⟩
    rintro e w4 ⟨rfl, rfl⟩
    go_wp2_with fail
    refine (rcheck1 Wd 0 1048576 0 1233125376 (by decide +kernel) (by decide +kernel) _).mono ?_
    rw [in_out n2 (by decide) (by decide)]
    cases ho2 : outF Wd 0 1233125376
    rotate_left
    · rintro e w3 ⟨rfl, rfl⟩
      obtain rfl : res = 3 := by rw [← HR.out]; unfold winErr; rw [if_neg Hk.out, if_neg (by rw [hN.out]; simp), if_pos (by simp [ho0, ho1, ho2])]
      clear HR HS Hn Hk HK
      go_wp2_with fail
      go_ret
      exact ⟨rfl, B⟩
    rintro e w5 ⟨rfl, rfl⟩
    go_wp2_with fail
    refine (rcheck1 H 0 1048576 0 1233125376 (by decide +kernel) (by decide +kernel) _).mono ?_
    rw [in_out n3 (by decide) (by decide)]
    cases ho3 : outF H 0 1233125376
    rotate_left
    · rintro e w3 ⟨rfl, rfl⟩
      obtain rfl : res = 3 := by rw [← HR.out]; unfold winErr; rw [if_neg Hk.out, if_neg (by rw [hN.out]; simp), if_pos (by simp [ho0, ho1, ho2, ho3])]
      clear HR HS Hn Hk HK
      go_wp2_with fail
      go_ret
      exact ⟨rfl, B⟩
    rintro e w6 ⟨rfl, rfl⟩
    go_wp2_with fail
    refine (rcheck1 S 0 4096 0 1166016512 (by decide +kernel) (by decide +kernel) _).mono ?_
    rw [in_out n4 (by decide) (by decide)]
    cases ho4 : outF S 0 1166016512
    rotate_left
    · rintro e w3 ⟨rfl, rfl⟩
      obtain rfl : res = 3 := by rw [← HR.out]; unfold winErr; rw [if_neg Hk.out, if_neg (by rw [hN.out]; simp), if_pos (by simp [ho0, ho1, ho2, ho3, ho4])]
      clear HR HS Hn Hk HK
      go_wp2_with fail
      go_ret
      exact ⟨rfl, B⟩
    rintro e w7 ⟨rfl, rfl⟩
    have hO : Hid ((outF X 3380609024 1233125376 || outF Y 3380609024 1233125376 || outF Wd 0 1233125376 || outF H 0 1233125376 || outF S 0 1166016512) = false) := Lib.hid (by rw [ho0, ho1, ho2, ho3, ho4]; rfl)
    clear ho0 ho1 ho2 ho3 ho4 n0 n1 n2 n3 n4
    go_upto_region 13 with fail
    by_cases hl1 : 0 < n
    · have d1 : decide (0 < (n : Int)) = true := decide_eq_true (by omega)
      have d2 : decide (0 < n) = true := decide_eq_true hl1
      obtain rfl : res = 3 := by rw [← HR.out]; unfold winErr; rw [if_neg Hk.out, if_neg (by rw [hN.out]; simp), if_neg (by rw [hO.out]; simp), if_pos (.inr ⟨by rw [HK.out]; decide, by rw [← Hn.out]; exact hl1⟩)]
      clear HR HS Hn Hk HK hl1
      go_wp2_with fail
      go_ret
      exact ⟨rfl, B⟩
    obtain rfl : n = 0 := by omega
    have hL : Hid (¬ ((kind = 3 ∧ (ps.length < 3 ∨ 32 < ps.length)) ∨ (kind ≠ 3 ∧ 0 < ps.length))) := Lib.hid (by have := Hn.out; have := HK.out; omega)
    clear hl1
    go_upto_region 16 with fail
    go_wp2_with fail
    refine (rcontains2 _ ps _ (HS.out.keep B)).mono ?_
    rintro e w9 ⟨rfl, hb⟩
    replace x1 := x1.keep hb
    replace B := bcall B hb
    clear hb q1 f1 l1
    obtain ⟨q1, f1, l1⟩ := x1.all
    cases hp : ps.any badP
    rotate_left
    · obtain rfl : res = 5 := by rw [← HR.out]; unfold winErr; rw [if_neg Hk.out, if_neg (by rw [hN.out]; simp), if_neg (by rw [hO.out]; simp), if_neg hL.out, if_pos hp]
      clear HR HS Hn Hk HK
      go_wp2_with fail
      go_ret
      exact ⟨rfl, B⟩
    have hP := Lib.hid hp
    clear hp
    obtain rfl : res = 0 := by rw [← HR.out]; unfold winErr; rw [if_neg Hk.out, if_neg (by rw [hN.out]; simp), if_neg (by rw [hO.out]; simp), if_neg hL.out, if_neg (by rw [hP.out]; simp), if_neg (by have := HK.out; omega)]
    clear HR HS Hn Hk HK
    go_wp2_with fail
    go_ret
    exact ⟨rfl, B⟩
  · have HK := Lib.hid hk
    clear hk
    go_upto_region 5 with fail
    go_wp2_with fail
    refine name_callw ?_
    intro w1 hw1
    have x5 : Bx w1 w0.heap.size 22 #[.float .f32 X, .float .f32 Y, .float .f32 Wd, .float .f32 H, .float .f32 S] := by rw [hw1]; exact Bx.new _ _ _
    replace x1 : Bx w1 W.heap.size 25 #[.int .i64 kind, .float .f32 X, .float .f32 Y, .float .f32 Wd, .float .f32 H, .float .f32 S, .slice a n c, .bool out] := by rw [hw1]; exact x1.alloc _
    replace B : Below W.heap.size W w1 := by rw [hw1]; exact bnew B
    clear hw1
    refine (ref_Numbers [X, Y, Wd, H, S] _ 5 _ _ rfl (by decide) (rd5 x5)).mono ?_
    rintro e w2 ⟨rfl, hb⟩
    clear x5
    replace x1 := x1.keep hb
    replace B := bcall B hb
    clear hb q1 f1 l1
    obtain ⟨q1, f1, l1⟩ := x1.all
    cases hnum : [X, Y, Wd, H, S].all isNum
    · obtain rfl : res = 2 := by rw [← HR.out]; unfold winErr; rw [if_neg Hk.out, if_pos hnum]
      clear HR HS Hn Hk HK
      go_wp2_with fail
      go_ret
      exact ⟨rfl, B⟩
    have hN := Lib.hid hnum
    have hn5 : isNum X = true ∧ isNum Y = true ∧ isNum Wd = true ∧ isNum H = true ∧ isNum S = true := by simpa using hnum
    obtain ⟨n0, n1, n2, n3, n4⟩ := hn5
    clear hnum
    go_upto_region 7 with fail
    go_wp2_with fail
    refine (rcheck1 X (-1048576) 1048576 3380609024 1233125376 (by decide +kernel) (by decide +kernel) _).mono ?_
    rw [in_out n0 (by decide) (by decide)]
    cases ho0 : outF X 3380609024 1233125376
    rotate_left
    · rintro e w3 ⟨rfl, rfl⟩
      obtain rfl : res = 3 := by rw [← HR.out]; unfold winErr; rw [if_neg Hk.out, if_neg (by rw [hN.out]; simp), if_pos (by simp [ho0])]
      clear HR HS Hn Hk HK
      go_wp2_with fail
      go_ret
      exact ⟨rfl, B⟩
    rintro e w3 ⟨rfl, rfl⟩
    go_wp2_with fail
    refine (rcheck1 Y (-1048576) 1048576 3380609024 1233125376 (by decide +kernel) (by decide +kernel) _).mono ?_
    rw [in_out n1 (by decide) (by decide)]
    cases ho1 : outF Y 3380609024 1233125376
    rotate_left
    · rintro e w3 ⟨rfl, rfl⟩
      obtain rfl : res = 3 := by rw [← HR.out]; unfold winErr; rw [if_neg Hk.out, if_neg (by rw [hN.out]; simp), if_pos (by simp [ho0, ho1])]
      clear HR HS Hn Hk HK
      go_wp2_with fail
      go_ret
      exact ⟨rfl, B⟩
    rintro e w4 ⟨rfl, rfl⟩
    go_wp2_with fail
    refine (rcheck1 Wd 0 1048576 0 1233125376 (by decide +kernel) (by decide +kernel) _).mono ?_
    rw [in_out n2 (by decide) (by decide)]
    cases ho2 : outF Wd 0 1233125376
    rotate_left
    · rintro e w3 ⟨rfl, rfl⟩
      obtain rfl : res = 3 := by rw [← HR.out]; unfold winErr; rw [if_neg Hk.out, if_neg (by rw [hN.out]; simp), if_pos (by simp [ho0, ho1, ho2])]
      clear HR HS Hn Hk HK
      go_wp2_with fail
      go_ret
      exact ⟨rfl, B⟩
    rintro e w5 ⟨rfl, rfl⟩
    go_wp2_with fail
    refine (rcheck1 H 0 1048576 0 1233125376 (by decide +kernel) (by decide +kernel) _).mono ?_
    rw [in_out n3 (by decide) (by decide)]
    cases ho3 : outF H 0 1233125376
    rotate_left
    · rintro e w3 ⟨rfl, rfl⟩
      obtain rfl : res = 3 := by rw [← HR.out]; unfold winErr; rw [if_neg Hk.out, if_neg (by rw [hN.out]; simp), if_pos (by simp [ho0, ho1, ho2, ho3])]
      clear HR HS Hn Hk HK
      go_wp2_with fail
      go_ret
      exact ⟨rfl, B⟩
    rintro e w6 ⟨rfl, rfl⟩
    go_wp2_with fail
    refine (rcheck1 S 0 4096 0 1166016512 (by decide +kernel) (by decide +kernel) _).mono ?_
    rw [in_out n4 (by decide) (by decide)]
    cases ho4 : outF S 0 1166016512
    rotate_left
    · rintro e w3 ⟨rfl, rfl⟩
      obtain rfl : res = 3 := by rw [← HR.out]; unfold winErr; rw [if_neg Hk.out, if_neg (by rw [hN.out]; simp), if_pos (by simp [ho0, ho1, ho2, ho3, ho4])]
      clear HR HS Hn Hk HK
      go_wp2_with fail
      go_ret
      exact ⟨rfl, B⟩
    rintro e w7 ⟨rfl, rfl⟩
    have hO : Hid ((outF X 3380609024 1233125376 || outF Y 3380609024 1233125376 || outF Wd 0 1233125376 || outF H 0 1233125376 || outF S 0 1166016512) = false) := Lib.hid (by rw [ho0, ho1, ho2, ho3, ho4]; rfl)
    clear ho0 ho1 ho2 ho3 ho4 n0 n1 n2 n3 n4
    go_upto_region 13 with fail
    by_cases hl1 : 0 < n
    · have d1 : decide (0 < (n : Int)) = true := decide_eq_true (by omega)
      have d2 : decide (0 < n) = true := decide_eq_true hl1
      obtain rfl : res = 3 := by rw [← HR.out]; unfold winErr; rw [if_neg Hk.out, if_neg (by rw [hN.out]; simp), if_neg (by rw [hO.out]; simp), if_pos (.inr ⟨by rw [HK.out]; decide, by rw [← Hn.out]; exact hl1⟩)]
      clear HR HS Hn Hk HK hl1
      go_wp2_with fail
      go_ret
      exact ⟨rfl, B⟩
    obtain rfl : n = 0 := by omega
    have hL : Hid (¬ ((kind = 3 ∧ (ps.length < 3 ∨ 32 < ps.length)) ∨ (kind ≠ 3 ∧ 0 < ps.length))) := Lib.hid (by have := Hn.out; have := HK.out; omega)
    clear hl1
    go_upto_region 16 with fail
    go_wp2_with fail
    refine (rcontains2 _ ps _ (HS.out.keep B)).mono ?_
    rintro e w9 ⟨rfl, hb⟩
    replace x1 := x1.keep hb
    replace B := bcall B hb
    clear hb q1 f1 l1
    obtain ⟨q1, f1, l1⟩ := x1.all
    cases hp : ps.any badP
    rotate_left
    · obtain rfl : res = 5 := by rw [← HR.out]; unfold winErr; rw [if_neg Hk.out, if_neg (by rw [hN.out]; simp), if_neg (by rw [hO.out]; simp), if_neg hL.out, if_pos hp]
      clear HR HS Hn Hk HK
      go_wp2_with fail
      go_ret
      exact ⟨rfl, B⟩
    have hP := Lib.hid hp
    clear hp
    cases e1 : eqF Wd 0
    rotate_left
    · have g1 : (FloatKind.f32.format.order Wd 0 == some .eq) = true := e1
      obtain rfl : res = 12 := by rw [← HR.out]; unfold winErr; rw [if_neg Hk.out, if_neg (by rw [hN.out]; simp), if_neg (by rw [hO.out]; simp), if_neg hL.out, if_neg (by rw [hP.out]; simp), if_pos (.inr ⟨HK.out, by rw [e1]; rfl⟩)]
      clear HR HS Hn Hk HK
      go_wp2_with fail
      go_ret
      exact ⟨rfl, B⟩
    have g1 : (FloatKind.f32.format.order Wd 0 == some .eq) = false := e1
    cases e2 : eqF H 0
    rotate_left
    · have g2 : (FloatKind.f32.format.order H 0 == some .eq) = true := e2
      obtain rfl : res = 12 := by rw [← HR.out]; unfold winErr; rw [if_neg Hk.out, if_neg (by rw [hN.out]; simp), if_neg (by rw [hO.out]; simp), if_neg hL.out, if_neg (by rw [hP.out]; simp), if_pos (.inr ⟨HK.out, by rw [e1, e2]; rfl⟩)]
      clear HR HS Hn Hk HK
      go_wp2_with fail
      go_ret
      exact ⟨rfl, B⟩
    have g2 : (FloatKind.f32.format.order H 0 == some .eq) = false := e2
    obtain rfl : res = 0 := by rw [← HR.out]; unfold winErr; rw [if_neg Hk.out, if_neg (by rw [hN.out]; simp), if_neg (by rw [hO.out]; simp), if_neg hL.out, if_neg (by rw [hP.out]; simp), if_neg (by rintro (⟨h, _⟩ | ⟨_, h⟩); have := HK.out; omega; rw [e1, e2] at h; cases h)]
    clear HR HS Hn Hk HK
    go_wp2_with fail
    go_ret
    exact ⟨rfl, B⟩
  · have HK := Lib.hid hk
    clear hk
    go_upto_region 5 with fail
    go_wp2_with fail
    refine name_callw ?_
    intro w1 hw1
    have x5 : Bx w1 w0.heap.size 22 #[.float .f32 X, .float .f32 Y, .float .f32 Wd, .float .f32 H, .float .f32 S] := by rw [hw1]; exact Bx.new _ _ _
    replace x1 : Bx w1 W.heap.size 25 #[.int .i64 kind, .float .f32 X, .float .f32 Y, .float .f32 Wd, .float .f32 H, .float .f32 S, .slice a n c, .bool out] := by rw [hw1]; exact x1.alloc _
    replace B : Below W.heap.size W w1 := by rw [hw1]; exact bnew B
    clear hw1
    refine (ref_Numbers [X, Y, Wd, H, S] _ 5 _ _ rfl (by decide) (rd5 x5)).mono ?_
    rintro e w2 ⟨rfl, hb⟩
    clear x5
    replace x1 := x1.keep hb
    replace B := bcall B hb
    clear hb q1 f1 l1
    obtain ⟨q1, f1, l1⟩ := x1.all
    cases hnum : [X, Y, Wd, H, S].all isNum
    · obtain rfl : res = 2 := by rw [← HR.out]; unfold winErr; rw [if_neg Hk.out, if_pos hnum]
      clear HR HS Hn Hk HK
      go_wp2_with fail
      go_ret
      exact ⟨rfl, B⟩
    have hN := Lib.hid hnum
    have hn5 : isNum X = true ∧ isNum Y = true ∧ isNum Wd = true ∧ isNum H = true ∧ isNum S = true := by simpa using hnum
    obtain ⟨n0, n1, n2, n3, n4⟩ := hn5
    clear hnum
    go_upto_region 7 with fail
    go_wp2_with fail
    refine (rcheck1 X (-1048576) 1048576 3380609024 1233125376 (by decide +kernel) (by decide +kernel) _).mono ?_
    rw [in_out n0 (by decide) (by decide)]
    cases ho0 : outF X 3380609024 1233125376
    rotate_left
    · rintro e w3 ⟨rfl, rfl⟩
      obtain rfl : res = 3 := by rw [← HR.out]; unfold winErr; rw [if_neg Hk.out, if_neg (by rw [hN.out]; simp), if_pos (by simp [ho0])]
      clear HR HS Hn Hk HK
      go_wp2_with fail
      go_ret
      exact ⟨rfl, B⟩
    rintro e w3 ⟨rfl, rfl⟩
    go_wp2_with fail
    refine (rcheck1 Y (-1048576) 1048576 3380609024 1233125376 (by decide +kernel) (by decide +kernel) _).mono ?_
    rw [in_out n1 (by decide) (by decide)]
    cases ho1 : outF Y 3380609024 1233125376
    rotate_left
    · rintro e w3 ⟨rfl, rfl⟩
      obtain rfl : res = 3 := by rw [← HR.out]; unfold winErr; rw [if_neg Hk.out, if_neg (by rw [hN.out]; simp), if_pos (by simp [ho0, ho1])]
      clear HR HS Hn Hk HK
      go_wp2_with fail
      go_ret
      exact ⟨rfl, B⟩
    rintro e w4 ⟨rfl, rfl⟩
    go_wp2_with fail
    refine (rcheck1 Wd 0 1048576 0 1233125376 (by decide +kernel) (by decide +kernel) _).mono ?_
    rw [in_out n2 (by decide) (by decide)]
    cases ho2 : outF Wd 0 1233125376
    rotate_left
    · rintro e w3 ⟨rfl, rfl⟩
      obtain rfl : res = 3 := by rw [← HR.out]; unfold winErr; rw [if_neg Hk.out, if_neg (by rw [hN.out]; simp), if_pos (by simp [ho0, ho1, ho2])]
      clear HR HS Hn Hk HK
      go_wp2_with fail
      go_ret
      exact ⟨rfl, B⟩
    rintro e w5 ⟨rfl, rfl⟩
    go_wp2_with fail
    refine (rcheck1 H 0 1048576 0 1233125376 (by decide +kernel) (by decide +kernel) _).mono ?_
    rw [in_out n3 (by decide) (by decide)]
    cases ho3 : outF H 0 1233125376
    rotate_left
    · rintro e w3 ⟨rfl, rfl⟩
      obtain rfl : res = 3 := by rw [← HR.out]; unfold winErr; rw [if_neg Hk.out, if_neg (by rw [hN.out]; simp), if_pos (by simp [ho0, ho1, ho2, ho3])]
      clear HR HS Hn Hk HK
      go_wp2_with fail
      go_ret
      exact ⟨rfl, B⟩
    rintro e w6 ⟨rfl, rfl⟩
    go_wp2_with fail
    refine (rcheck1 S 0 4096 0 1166016512 (by decide +kernel) (by decide +kernel) _).mono ?_
    rw [in_out n4 (by decide) (by decide)]
    cases ho4 : outF S 0 1166016512
    rotate_left
    · rintro e w3 ⟨rfl, rfl⟩
      obtain rfl : res = 3 := by rw [← HR.out]; unfold winErr; rw [if_neg Hk.out, if_neg (by rw [hN.out]; simp), if_pos (by simp [ho0, ho1, ho2, ho3, ho4])]
      clear HR HS Hn Hk HK
      go_wp2_with fail
      go_ret
      exact ⟨rfl, B⟩
    rintro e w7 ⟨rfl, rfl⟩
    have hO : Hid ((outF X 3380609024 1233125376 || outF Y 3380609024 1233125376 || outF Wd 0 1233125376 || outF H 0 1233125376 || outF S 0 1166016512) = false) := Lib.hid (by rw [ho0, ho1, ho2, ho3, ho4]; rfl)
    clear ho0 ho1 ho2 ho3 ho4 n0 n1 n2 n3 n4
    go_upto_region 13 with fail
    by_cases hl1 : n < 3
    · have d1 : decide ((n : Int) < 3) = true := decide_eq_true (by omega)
      obtain rfl : res = 3 := by rw [← HR.out]; unfold winErr; rw [if_neg Hk.out, if_neg (by rw [hN.out]; simp), if_neg (by rw [hO.out]; simp), if_pos (.inl ⟨HK.out, .inl (by rw [← Hn.out]; exact hl1)⟩)]
      clear HR HS Hn Hk HK hl1
      go_wp2_with fail
      go_ret
      exact ⟨rfl, B⟩
    have d1 : decide ((n : Int) < 3) = false := decide_eq_false (by omega)
    by_cases hl2 : 32 < n
    · have d2 : decide (32 < (n : Int)) = true := decide_eq_true (by omega)
      obtain rfl : res = 3 := by rw [← HR.out]; unfold winErr; rw [if_neg Hk.out, if_neg (by rw [hN.out]; simp), if_neg (by rw [hO.out]; simp), if_pos (.inl ⟨HK.out, .inr (by rw [← Hn.out]; exact hl2)⟩)]
      clear HR HS Hn Hk HK hl1 hl2
      go_wp2_with fail
      go_ret
      exact ⟨rfl, B⟩
    have d2 : decide (32 < (n : Int)) = false := decide_eq_false (by omega)
    have hL : Hid (¬ ((kind = 3 ∧ (ps.length < 3 ∨ 32 < ps.length)) ∨ (kind ≠ 3 ∧ 0 < ps.length))) := Lib.hid (by have := Hn.out; have := HK.out; omega)
    clear hl1 hl2
    go_upto_region 16 with fail
    go_wp2_with fail
    refine (rcontains2 _ ps _ (HS.out.keep B)).mono ?_
    rintro e w9 ⟨rfl, hb⟩
    replace x1 := x1.keep hb
    replace B := bcall B hb
    clear hb q1 f1 l1
    obtain ⟨q1, f1, l1⟩ := x1.all
    cases hp : ps.any badP
    rotate_left
    · obtain rfl : res = 5 := by rw [← HR.out]; unfold winErr; rw [if_neg Hk.out, if_neg (by rw [hN.out]; simp), if_neg (by rw [hO.out]; simp), if_neg hL.out, if_pos hp]
      clear HR HS Hn Hk HK
      go_wp2_with fail
      go_ret
      exact ⟨rfl, B⟩
    have hP := Lib.hid hp
    clear hp
    cases e0 : eqF X 0
    · have g0 : (FloatKind.f32.format.order X 0 != some .eq) = true := by have : (FloatKind.f32.format.order X 0 == some .eq) = false := e0; rw [bne, this]; rfl
      obtain rfl : res = 12 := by rw [← HR.out]; unfold winErr; rw [if_neg Hk.out, if_neg (by rw [hN.out]; simp), if_neg (by rw [hO.out]; simp), if_neg hL.out, if_neg (by rw [hP.out]; simp), if_pos (.inl ⟨HK.out, by simp [e0]⟩)]
      clear HR HS Hn Hk HK
      go_wp2_with fail
      go_ret
      exact ⟨rfl, B⟩
    have g0 : (FloatKind.f32.format.order X 0 != some .eq) = false := by have : (FloatKind.f32.format.order X 0 == some .eq) = true := e0; rw [bne, this]; rfl
    cases e1 : eqF Y 0
    · have g1 : (FloatKind.f32.format.order Y 0 != some .eq) = true := by have : (FloatKind.f32.format.order Y 0 == some .eq) = false := e1; rw [bne, this]; rfl
      obtain rfl : res = 12 := by rw [← HR.out]; unfold winErr; rw [if_neg Hk.out, if_neg (by rw [hN.out]; simp), if_neg (by rw [hO.out]; simp), if_neg hL.out, if_neg (by rw [hP.out]; simp), if_pos (.inl ⟨HK.out, by simp [e0, e1]⟩)]
      clear HR HS Hn Hk HK
      go_wp2_with fail
      go_ret
      exact ⟨rfl, B⟩
    have g1 : (FloatKind.f32.format.order Y 0 != some .eq) = false := by have : (FloatKind.f32.format.order Y 0 == some .eq) = true := e1; rw [bne, this]; rfl
    cases e2 : eqF Wd 0
    · have g2 : (FloatKind.f32.format.order Wd 0 != some .eq) = true := by have : (FloatKind.f32.format.order Wd 0 == some .eq) = false := e2; rw [bne, this]; rfl
      obtain rfl : res = 12 := by rw [← HR.out]; unfold winErr; rw [if_neg Hk.out, if_neg (by rw [hN.out]; simp), if_neg (by rw [hO.out]; simp), if_neg hL.out, if_neg (by rw [hP.out]; simp), if_pos (.inl ⟨HK.out, by simp [e0, e1, e2]⟩)]
      clear HR HS Hn Hk HK
      go_wp2_with fail
      go_ret
      exact ⟨rfl, B⟩
    have g2 : (FloatKind.f32.format.order Wd 0 != some .eq) = false := by have : (FloatKind.f32.format.order Wd 0 == some .eq) = true := e2; rw [bne, this]; rfl
    cases e3 : eqF H 0
    · have g3 : (FloatKind.f32.format.order H 0 != some .eq) = true := by have : (FloatKind.f32.format.order H 0 == some .eq) = false := e3; rw [bne, this]; rfl
      obtain rfl : res = 12 := by rw [← HR.out]; unfold winErr; rw [if_neg Hk.out, if_neg (by rw [hN.out]; simp), if_neg (by rw [hO.out]; simp), if_neg hL.out, if_neg (by rw [hP.out]; simp), if_pos (.inl ⟨HK.out, by simp [e0, e1, e2, e3]⟩)]
      clear HR HS Hn Hk HK
      go_wp2_with fail
      go_ret
      exact ⟨rfl, B⟩
    have g3 : (FloatKind.f32.format.order H 0 != some .eq) = false := by have : (FloatKind.f32.format.order H 0 == some .eq) = true := e3; rw [bne, this]; rfl
    cases e4 : eqF S 0
    · have g4 : (FloatKind.f32.format.order S 0 != some .eq) = true := by have : (FloatKind.f32.format.order S 0 == some .eq) = false := e4; rw [bne, this]; rfl
      obtain rfl : res = 12 := by rw [← HR.out]; unfold winErr; rw [if_neg Hk.out, if_neg (by rw [hN.out]; simp), if_neg (by rw [hO.out]; simp), if_neg hL.out, if_neg (by rw [hP.out]; simp), if_pos (.inl ⟨HK.out, by simp [e0, e1, e2, e3, e4]⟩)]
      clear HR HS Hn Hk HK
      go_wp2_with fail
      go_ret
      exact ⟨rfl, B⟩
    have g4 : (FloatKind.f32.format.order S 0 != some .eq) = false := by have : (FloatKind.f32.format.order S 0 == some .eq) = true := e4; rw [bne, this]; rfl
    obtain rfl : res = 0 := by rw [← HR.out]; unfold winErr; rw [if_neg Hk.out, if_neg (by rw [hN.out]; simp), if_neg (by rw [hO.out]; simp), if_neg hL.out, if_neg (by rw [hP.out]; simp), if_neg (by rintro (⟨_, h⟩ | ⟨h, _⟩); rw [e0, e1, e2, e3, e4] at h; cases h; have := HK.out; omega)]
    clear HR HS Hn Hk HK
    go_wp2_with fail
    go_ret
    exact ⟨rfl, B⟩
end Go.Proofs.Ytfkiljhjiogdlaa
