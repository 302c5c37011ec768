/- key.CheckWindow. (printed by gen_wnd.py) -/
import Derived.Test.YtfkiljhjiogdlaaWnC
import Derived.Test.YtfkiljhjiogdlaaNum2
namespace Go.Proofs.Ytfkiljhjiogdlaa
open Go.RowKit

def outF (v lo hi : Nat) : Bool := ltF v lo || gtF v hi
def eqF (a b : Nat) : Bool := FloatKind.f32.format.order a b == some .eq
def plB (n : Int) : Bool := decide (-1048576 ≤ n) && decide (n ≤ 1048576)
def badP (p : Int × Int) : Bool := !plB p.1 || !plB p.2
def winErr (kind : Int) (X Y Wd H S : Nat) (ps : List (Int × Int)) : Int :=
  if kind ≠ 1 ∧ kind ≠ 2 ∧ kind ≠ 3 then 1
  else if [X, Y, Wd, H, S].all isNum = false then 2
  else if (outF X 3380609024 1233125376 || outF Y 3380609024 1233125376 || outF Wd 0 1233125376 || outF H 0 1233125376 || outF S 0 1166016512) = true then 3
  else if (kind = 3 ∧ (ps.length < 3 ∨ 32 < ps.length)) ∨ (kind ≠ 3 ∧ 0 < ps.length) then 3
  else if ps.any badP = true then 5
  else if (kind = 3 ∧ (eqF X 0 && eqF Y 0 && eqF Wd 0 && eqF H 0 && eqF S 0) = false) ∨ (kind = 2 ∧ (eqF Wd 0 || eqF H 0) = true) then 12
  else 0

theorem key_placed (n : Int) (w : World) : Calls Try.prog 29 #[.int .i64 n] w fun e w' => e = .returned (.bool (plB n)) ∧ w = w' := by
  by_cases h1 : -1048576 ≤ n
  · have d1 : decide (-1048576 ≤ n) = true := decide_eq_true h1
    rw [show plB n = decide (n ≤ 1048576) by unfold plB; rw [d1]; rfl]
    go_enter Try.func29, Try.ntmps29
    go_wp2_with fail
    all_goals go_ret
    all_goals exact ⟨rfl, rfl⟩
  · have d1 : decide (-1048576 ≤ n) = false := decide_eq_false h1
    rw [show plB n = false by unfold plB; rw [d1]; rfl]
    go_enter Try.func29, Try.ntmps29
    go_wp2_with fail
    all_goals go_ret
    all_goals exact ⟨rfl, rfl⟩
theorem check1 (v lo hi : Nat) (w : World) : Calls Try.prog 69 #[.float .f32 v, .float .f32 lo, .float .f32 hi] w fun e w' => e = .returned (.bool (outF v lo hi)) ∧ w = w' := by
  cases h1 : ltF v lo
  · cases h2 : gtF v hi
    all_goals
      have g1 : (FloatKind.f32.format.order v lo == some .lt) = false := h1
      first | have g2 : (FloatKind.f32.format.order v hi == some .gt) = false := h2 | have g2 : (FloatKind.f32.format.order v hi == some .gt) = true := h2
      unfold outF
      rw [h1, h2]
      clear h1 h2
      go_enter Try.func69, Try.ntmps69
      go_wp2_with fail
      go_ret
      exact ⟨rfl, rfl⟩
  · have g1 : (FloatKind.f32.format.order v lo == some .lt) = true := h1
    unfold outF
    rw [h1]
    clear h1
    go_enter Try.func69, Try.ntmps69
    go_wp2_with fail
    go_ret
    exact ⟨rfl, rfl⟩
theorem check2 (a b : Int) (W : World) : Calls Try.prog 72 #[.agg #[.int .i64 a, .int .i64 b]] W fun e w' => e = .returned (.bool (badP (a, b))) ∧ Below W.heap.size W w' := by
  have hb : badP (a, b) = (!plB a || !plB b) := rfl
  rw [hb]
  cases h1 : plB a
  · go_enter Try.func72, Try.ntmps72
    go_wp2_with fail
    refine (key_placed a _).mono ?_
    rw [h1]
    rintro e w1 ⟨rfl, rfl⟩
    go_wp2_with fail
    go_ret
    exact ⟨rfl, bnew (Below.refl _ W)⟩
  · cases h2 : plB b
    all_goals
      go_enter Try.func72, Try.ntmps72
      go_wp2_with fail
      refine (key_placed a _).mono ?_
      rw [h1]
      rintro e w1 ⟨rfl, rfl⟩
      go_wp2_with fail
      refine (key_placed b _).mono ?_
      rw [h2]
      rintro e w1 ⟨rfl, rfl⟩
      go_wp2_with fail
      go_ret
      exact ⟨rfl, bnew (Below.refl _ W)⟩
theorem any_take (ps : List (Int × Int)) (k : Nat) (hk : k < ps.length) (h : (ps.take k).any badP = false) : (badP (ps.getD k default) = true → ps.any badP = true) ∧ (badP (ps.getD k default) = false → (ps.take (k + 1)).any badP = false) := by
  have e : ps.getD k default = ps[k] := by simp [List.getD, hk]
  rw [e]
  refine ⟨fun h1 => List.any_eq_true.2 ⟨ps[k], List.getElem_mem hk, h1⟩, fun h1 => ?_⟩
  rw [List.take_succ_eq_append_getElem hk, List.any_append, h]
  simp [h1]

set_option maxRecDepth 100000 in
set_option maxHeartbeats 4000000 in
theorem index2 (pv : Value) (ps : List (Int × Int)) (W : World) (hs : SlP W pv ps) : Calls Try.prog 101 #[pv, .func (.func 72) #[] #[]] W fun e w' => ∃ i, e = .returned (.int .i64 i) ∧ decide (0 ≤ i) = ps.any badP ∧ Below W.heap.size W w' := by
  obtain ⟨a, c, rfl, hmax, hform⟩ := hs
  unfold maxLen at hmax
  obtain ⟨n, hnn⟩ : ∃ n, n = ps.length := ⟨_, rfl⟩
  rw [← hnn] at hmax ⊢
  have Hn := Lib.hid hnn
  clear hnn
  generalize hres : ps.any badP = res
  have Hres := Lib.hid hres
  clear hres
  go_enter Try.func101, Try.ntmps101
  go_wp2_with fail
  go_loopw [8] (fun i wr => ∃ k : Nat, k ≤ n ∧ i = .int .i64 (k : Int) ∧ Hid ((ps.take k).any badP = false) ∧ Below W.heap.size W wr) (fun i _ => n - (intOf i).toNat)
  case atStart => exact ⟨0, by omega, rfl, Lib.hid (by simp), Below.refl _ _⟩
  case round =>
    obtain ⟨k, hk, rfl, hz, B⟩ := hrel
    by_cases hlt : k < n
    · rcases hform with h0 | ⟨b, o, rfl, hbl, hat⟩
      · exfalso
        have := Hn.out
        rw [h0] at this
        simp at this
        omega
      obtain ⟨z1, z2⟩ := hat k (by rw [← Hn.out]; exact hlt)
      obtain ⟨t1, t2⟩ := any_take ps k (by rw [← Hn.out]; exact hlt) hz.out
      have T := Lib.hid (And.intro t1 t2)
      have e1 : wr.cell? ⟨b, o + k * 2, none⟩ = _ := (B.cell (p := ⟨b, o + k * 2, none⟩) hbl).trans z1
      have e2 : wr.cell? ⟨b, o + k * 2 + 1, none⟩ = _ := (B.cell (p := ⟨b, o + k * 2 + 1, none⟩) hbl).trans z2
      have hpp : ps.getD k default = ((ps.getD k default).1, (ps.getD k default).2) := rfl
      rw [hpp] at T
      generalize (ps.getD k default).1 = px at *
      generalize (ps.getD k default).2 = py at *
      clear hat z1 z2 t1 t2 hpp
      go_wp2_with fail
      refine (check2 px py _).mono ?_
      cases hb : badP (px, py)
      · rintro e w1 ⟨rfl, hb1⟩
        replace B := bcall B hb1
        have hz2 := Lib.hid (T.out.2 hb)
        clear hb1 T hb hz
        go_wp2_with fail
        go_roundw
        case rel => exact ⟨k + 1, by omega, by go_num, hz2, B⟩
        case measure => simp [intOf]; omega
      · rintro e w1 ⟨rfl, hb1⟩
        replace B := bcall B hb1
        obtain rfl : res = true := by rw [← Hres.out]; exact T.out.1 hb
        clear hb1 T hb hz
        go_wp2_with fail
        go_ret
        exact ⟨_, rfl, decide_eq_true (by omega), B⟩
    · obtain rfl : k = n := by omega
      obtain rfl : res = false := by
        have h := hz.out
        rw [Hn.out, List.take_length] at h
        rw [← Hres.out]; exact h
      go_wp2_with fail
      go_ret
      exact ⟨_, rfl, by decide, B⟩
theorem contains2 (pv : Value) (ps : List (Int × Int)) (W : World) (hs : SlP W pv ps) : Calls Try.prog 71 #[pv, .func (.func 72) #[] #[]] W fun e w' => e = .returned (.bool (ps.any badP)) ∧ Below W.heap.size W w' := by
  have L := Lib.hid (fun w (h : SlP w pv ps) => index2 pv ps w h)
  have HS := Lib.hid hs
  clear hs
  generalize ps.any badP = res at *
  go_enter Try.func71, Try.ntmps71
  go_wp2_with fail
  refine (L.out _ HS.out).mono ?_
  rintro e w1 ⟨i, rfl, hi, B⟩
  go_wp2_with fail
  go_ret
  exact ⟨rfl, B⟩
theorem rd5 {w : World} {b : Nat} {T : TypeId} {a0 a1 a2 a3 a4 : Nat} (x : Bx w b T #[.float .f32 a0, .float .f32 a1, .float .f32 a2, .float .f32 a3, .float .f32 a4]) : Rd w b 0 [a0, a1, a2, a3, a4] :=
  ⟨x.lt, fun k hk => by
    have hk : k < 5 := hk
    rw [x.all.1]
    rcases (by omega : k = 0 ∨ k = 1 ∨ k = 2 ∨ k = 3 ∨ k = 4) with rfl | rfl | rfl | rfl | rfl <;> rfl⟩

theorem name_callw {P : Program} {f : FuncId} {args : Array Value} {w0 : World} {Q : Ending → World → Prop} (h : ∀ wb, wb = w0 → Calls P f args wb Q) : Calls P f args w0 Q := h _ rfl

set_option maxRecDepth 100000 in
set_option maxHeartbeats 8000000 in
theorem key_CheckWindow (kind : Int) (X Y Wd H S : Nat) (pv : Value) (ps : List (Int × Int)) (out : Bool) (W : World) (hs : SlP W pv ps) : Calls Try.prog 26 #[.agg #[.int .i64 kind, .float .f32 X, .float .f32 Y, .float .f32 Wd, .float .f32 H, .float .f32 S, pv, .bool out]] W fun e w' => e = .returned (.int .i64 (winErr kind X Y Wd H S ps)) ∧ Below W.heap.size W w' := by
  have HS := Lib.hid hs
  obtain ⟨a, c, rfl, -, -⟩ := hs
  obtain ⟨n, hnn⟩ : ∃ n, n = ps.length := ⟨_, rfl⟩
  rw [← hnn] at HS ⊢
  generalize hres : winErr kind X Y Wd H S ps = res
  have HR := Lib.hid hres
  have Hn := Lib.hid hnn
  clear hres hnn
  go_enter Try.func26, Try.ntmps26
  go_upto_region 1 with fail
  refine name_world ?_
  intro w0 hw0
  have x1 : Bx w0 W.heap.size 25 #[.int .i64 kind, .float .f32 X, .float .f32 Y, .float .f32 Wd, .float .f32 H, .float .f32 S, .slice a n c, .bool out] := by rw [hw0]; exact Bx.new _ _ _
  have B : Below W.heap.size W w0 := by rw [hw0]; exact bnew (Below.refl _ W)
  clear hw0
  obtain ⟨q1, f1, l1⟩ := x1.all
  by_cases hk : kind ≠ 1 ∧ kind ≠ 2 ∧ kind ≠ 3
  · obtain rfl : res = 1 := by rw [← HR.out]; unfold winErr; rw [if_pos hk]
    have k1 : (kind != 1) = true := by simpa using hk.1
    have k2 : (kind != 2) = true := by simpa using hk.2.1
    have k3 : (kind == 3) = false := by simpa using hk.2.2
    clear hk HR
    go_wp2_with fail
    go_ret
    exact ⟨rfl, B⟩
  have Hk := Lib.hid hk
  have k0 : (kind = 1 ∧ (kind != 1) = false ∧ (kind == 2) = false ∧ (kind == 3) = false ∧ (kind != 3) = true) ∨ (kind = 2 ∧ (kind != 1) = true ∧ (kind != 2) = false ∧ (kind == 2) = true ∧ (kind == 3) = false) ∨ (kind = 3 ∧ (kind != 1) = true ∧ (kind != 2) = true ∧ (kind == 2) = false ∧ (kind == 3) = true) := by
    rcases (by omega : kind = 1 ∨ kind = 2 ∨ kind = 3) with rfl | rfl | rfl
    · exact .inl ⟨rfl, rfl, rfl, rfl, rfl⟩
    · exact .inr (.inl ⟨rfl, rfl, rfl, rfl, rfl⟩)
    · exact .inr (.inr ⟨rfl, rfl, rfl, rfl, rfl⟩)
  clear hk
  rcases k0 with ⟨hk, k1, k2, k3, k4⟩ | ⟨hk, k1, k2, k3, k4⟩ | ⟨hk, k1, k2, k3, k4⟩
  · have HK := Lib.hid hk
    clear hk
    go_upto_region 5 with fail
    go_wp2_with fail
    refine name_callw ?_
    intro w1 hw1
    have x5 : Bx w1 w0.heap.size 22 #[.float .f32 X, .float .f32 Y, .float .f32 Wd, .float .f32 H, .float .f32 S] := by rw [hw1]; exact Bx.new _ _ _
    replace x1 : Bx w1 W.heap.size 25 #[.int .i64 kind, .float .f32 X, .float .f32 Y, .float .f32 Wd, .float .f32 H, .float .f32 S, .slice a n c, .bool out] := by rw [hw1]; exact x1.alloc _
    replace B : Below W.heap.size W w1 := by rw [hw1]; exact bnew B
    clear hw1
    refine (num_AllNumbers [X, Y, Wd, H, S] _ 5 _ _ rfl (by decide) (rd5 x5)).mono ?_
    rintro e w2 ⟨rfl, hb⟩
    clear x5
    replace x1 := x1.keep hb
    replace B := bcall B hb
    clear hb q1 f1 l1
    obtain ⟨q1, f1, l1⟩ := x1.all
    cases hnum : [X, Y, Wd, H, S].all isNum
    · obtain rfl : res = 2 := by rw [← HR.out]; unfold winErr; rw [if_neg Hk.out, if_pos hnum]
      clear HR HS Hn Hk HK
      go_wp2_with fail
      go_ret
      exact ⟨rfl, B⟩
    have hN := Lib.hid hnum
    clear hnum
    go_upto_region 7 with fail
    go_wp2_with fail
    refine (check1 X 3380609024 1233125376 _).mono ?_
    cases ho0 : outF X 3380609024 1233125376
    rotate_left
    · rintro e w3 ⟨rfl, rfl⟩
      obtain rfl : res = 3 := by rw [← HR.out]; unfold winErr; rw [if_neg Hk.out, if_neg (by rw [hN.out]; simp), if_pos (by simp [ho0])]
      clear HR HS Hn Hk HK
      go_wp2_with fail
      go_ret
      exact ⟨rfl, B⟩
    rintro e w3 ⟨rfl, rfl⟩
    go_wp2_with fail
    refine (check1 Y 3380609024 1233125376 _).mono ?_
    cases ho1 : outF Y 3380609024 1233125376
    rotate_left
    · rintro e w3 ⟨rfl, rfl⟩
      obtain rfl : res = 3 := by rw [← HR.out]; unfold winErr; rw [if_neg Hk.out, if_neg (by rw [hN.out]; simp), if_pos (by simp [ho0, ho1])]
      clear HR HS Hn Hk HK
      go_wp2_with fail
      go_ret
      exact ⟨rfl, B⟩
    rintro e w4 ⟨rfl, rfl⟩
    go_wp2_with fail
    refine (check1 Wd 0 1233125376 _).mono ?_
    cases ho2 : outF Wd 0 1233125376
    rotate_left
    · rintro e w3 ⟨rfl, rfl⟩
      obtain rfl : res = 3 := by rw [← HR.out]; unfold winErr; rw [if_neg Hk.out, if_neg (by rw [hN.out]; simp), if_pos (by simp [ho0, ho1, ho2])]
      clear HR HS Hn Hk HK
      go_wp2_with fail
      go_ret
      exact ⟨rfl, B⟩
    rintro e w5 ⟨rfl, rfl⟩
    go_wp2_with fail
    refine (check1 H 0 1233125376 _).mono ?_
    cases ho3 : outF H 0 1233125376
    rotate_left
    · rintro e w3 ⟨rfl, rfl⟩
      obtain rfl : res = 3 := by rw [← HR.out]; unfold winErr; rw [if_neg Hk.out, if_neg (by rw [hN.out]; simp), if_pos (by simp [ho0, ho1, ho2, ho3])]
      clear HR HS Hn Hk HK
      go_wp2_with fail
      go_ret
      exact ⟨rfl, B⟩
    rintro e w6 ⟨rfl, rfl⟩
    go_wp2_with fail
    refine (check1 S 0 1166016512 _).mono ?_
    cases ho4 : outF S 0 1166016512
    rotate_left
    · rintro e w3 ⟨rfl, rfl⟩
      obtain rfl : res = 3 := by rw [← HR.out]; unfold winErr; rw [if_neg Hk.out, if_neg (by rw [hN.out]; simp), if_pos (by simp [ho0, ho1, ho2, ho3, ho4])]
      clear HR HS Hn Hk HK
      go_wp2_with fail
      go_ret
      exact ⟨rfl, B⟩
    rintro e w7 ⟨rfl, rfl⟩
    have hO : Hid ((outF X 3380609024 1233125376 || outF Y 3380609024 1233125376 || outF Wd 0 1233125376 || outF H 0 1233125376 || outF S 0 1166016512) = false) := Lib.hid (by rw [ho0, ho1, ho2, ho3, ho4]; rfl)
    clear ho0 ho1 ho2 ho3 ho4
    go_upto_region 9 with fail
    by_cases hl1 : 0 < n
    · have d1 : decide (0 < (n : Int)) = true := decide_eq_true (by omega)
      have d2 : decide (0 < n) = true := decide_eq_true hl1
      obtain rfl : res = 3 := by rw [← HR.out]; unfold winErr; rw [if_neg Hk.out, if_neg (by rw [hN.out]; simp), if_neg (by rw [hO.out]; simp), if_pos (.inr ⟨by rw [HK.out]; decide, by rw [← Hn.out]; exact hl1⟩)]
      clear HR HS Hn Hk HK hl1
      go_wp2_with fail
      go_ret
      exact ⟨rfl, B⟩
    obtain rfl : n = 0 := by omega
    have hL : Hid (¬ ((kind = 3 ∧ (ps.length < 3 ∨ 32 < ps.length)) ∨ (kind ≠ 3 ∧ 0 < ps.length))) := Lib.hid (by have := Hn.out; have := HK.out; omega)
    clear hl1
    go_upto_region 11 with fail
    go_wp2_with fail
    refine (contains2 _ ps _ (HS.out.keep B)).mono ?_
    rintro e w9 ⟨rfl, hb⟩
    replace x1 := x1.keep hb
    replace B := bcall B hb
    clear hb q1 f1 l1
    obtain ⟨q1, f1, l1⟩ := x1.all
    cases hp : ps.any badP
    rotate_left
    · obtain rfl : res = 5 := by rw [← HR.out]; unfold winErr; rw [if_neg Hk.out, if_neg (by rw [hN.out]; simp), if_neg (by rw [hO.out]; simp), if_neg hL.out, if_pos hp]
      clear HR HS Hn Hk HK
      go_wp2_with fail
      go_ret
      exact ⟨rfl, B⟩
    have hP := Lib.hid hp
    clear hp
    obtain rfl : res = 0 := by rw [← HR.out]; unfold winErr; rw [if_neg Hk.out, if_neg (by rw [hN.out]; simp), if_neg (by rw [hO.out]; simp), if_neg hL.out, if_neg (by rw [hP.out]; simp), if_neg (by have := HK.out; omega)]
    clear HR HS Hn Hk HK
    go_wp2_with fail
    go_ret
    exact ⟨rfl, B⟩
  · have HK := Lib.hid hk
    clear hk
    go_upto_region 5 with fail
    go_wp2_with fail
    refine name_callw ?_
    intro w1 hw1
    have x5 : Bx w1 w0.heap.size 22 #[.float .f32 X, .float .f32 Y, .float .f32 Wd, .float .f32 H, .float .f32 S] := by rw [hw1]; exact Bx.new _ _ _
    replace x1 : Bx w1 W.heap.size 25 #[.int .i64 kind, .float .f32 X, .float .f32 Y, .float .f32 Wd, .float .f32 H, .float .f32 S, .slice a n c, .bool out] := by rw [hw1]; exact x1.alloc _
    replace B : Below W.heap.size W w1 := by rw [hw1]; exact bnew B
    clear hw1
    refine (num_AllNumbers [X, Y, Wd, H, S] _ 5 _ _ rfl (by decide) (rd5 x5)).mono ?_
    rintro e w2 ⟨rfl, hb⟩
    clear x5
    replace x1 := x1.keep hb
    replace B := bcall B hb
    clear hb q1 f1 l1
    obtain ⟨q1, f1, l1⟩ := x1.all
    cases hnum : [X, Y, Wd, H, S].all isNum
    · obtain rfl : res = 2 := by rw [← HR.out]; unfold winErr; rw [if_neg Hk.out, if_pos hnum]
      clear HR HS Hn Hk HK
      go_wp2_with fail
      go_ret
      exact ⟨rfl, B⟩
    have hN := Lib.hid hnum
    clear hnum
    go_upto_region 7 with fail
    go_wp2_with fail
    refine (check1 X 3380609024 1233125376 _).mono ?_
    cases ho0 : outF X 3380609024 1233125376
    rotate_left
    · rintro e w3 ⟨rfl, rfl⟩
      obtain rfl : res = 3 := by rw [← HR.out]; unfold winErr; rw [if_neg Hk.out, if_neg (by rw [hN.out]; simp), if_pos (by simp [ho0])]
      clear HR HS Hn Hk HK
      go_wp2_with fail
      go_ret
      exact ⟨rfl, B⟩
    rintro e w3 ⟨rfl, rfl⟩
    go_wp2_with fail
    refine (check1 Y 3380609024 1233125376 _).mono ?_
    cases ho1 : outF Y 3380609024 1233125376
    rotate_left
    · rintro e w3 ⟨rfl, rfl⟩
      obtain rfl : res = 3 := by rw [← HR.out]; unfold winErr; rw [if_neg Hk.out, if_neg (by rw [hN.out]; simp), if_pos (by simp [ho0, ho1])]
      clear HR HS Hn Hk HK
      go_wp2_with fail
      go_ret
      exact ⟨rfl, B⟩
    rintro e w4 ⟨rfl, rfl⟩
    go_wp2_with fail
    refine (check1 Wd 0 1233125376 _).mono ?_
    cases ho2 : outF Wd 0 1233125376
    rotate_left
    · rintro e w3 ⟨rfl, rfl⟩
      obtain rfl : res = 3 := by rw [← HR.out]; unfold winErr; rw [if_neg Hk.out, if_neg (by rw [hN.out]; simp), if_pos (by simp [ho0, ho1, ho2])]
      clear HR HS Hn Hk HK
      go_wp2_with fail
      go_ret
      exact ⟨rfl, B⟩
    rintro e w5 ⟨rfl, rfl⟩
    go_wp2_with fail
    refine (check1 H 0 1233125376 _).mono ?_
    cases ho3 : outF H 0 1233125376
    rotate_left
    · rintro e w3 ⟨rfl, rfl⟩
      obtain rfl : res = 3 := by rw [← HR.out]; unfold winErr; rw [if_neg Hk.out, if_neg (by rw [hN.out]; simp), if_pos (by simp [ho0, ho1, ho2, ho3])]
      clear HR HS Hn Hk HK
      go_wp2_with fail
      go_ret
      exact ⟨rfl, B⟩
    rintro e w6 ⟨rfl, rfl⟩
    go_wp2_with fail
    refine (check1 S 0 1166016512 _).mono ?_
    cases ho4 : outF S 0 1166016512
    rotate_left
    · rintro e w3 ⟨rfl, rfl⟩
      obtain rfl : res = 3 := by rw [← HR.out]; unfold winErr; rw [if_neg Hk.out, if_neg (by rw [hN.out]; simp), if_pos (by simp [ho0, ho1, ho2, ho3, ho4])]
      clear HR HS Hn Hk HK
      go_wp2_with fail
      go_ret
      exact ⟨rfl, B⟩
    rintro e w7 ⟨rfl, rfl⟩
    have hO : Hid ((outF X 3380609024 1233125376 || outF Y 3380609024 1233125376 || outF Wd 0 1233125376 || outF H 0 1233125376 || outF S 0 1166016512) = false) := Lib.hid (by rw [ho0, ho1, ho2, ho3, ho4]; rfl)
    clear ho0 ho1 ho2 ho3 ho4
    go_upto_region 9 with fail
    by_cases hl1 : 0 < n
    · have d1 : decide (0 < (n : Int)) = true := decide_eq_true (by omega)
      have d2 : decide (0 < n) = true := decide_eq_true hl1
      obtain rfl : res = 3 := by rw [← HR.out]; unfold winErr; rw [if_neg Hk.out, if_neg (by rw [hN.out]; simp), if_neg (by rw [hO.out]; simp), if_pos (.inr ⟨by rw [HK.out]; decide, by rw [← Hn.out]; exact hl1⟩)]
      clear HR HS Hn Hk HK hl1
      go_wp2_with fail
      go_ret
      exact ⟨rfl, B⟩
    obtain rfl : n = 0 := by omega
    have hL : Hid (¬ ((kind = 3 ∧ (ps.length < 3 ∨ 32 < ps.length)) ∨ (kind ≠ 3 ∧ 0 < ps.length))) := Lib.hid (by have := Hn.out; have := HK.out; omega)
    clear hl1
    go_upto_region 11 with fail
    go_wp2_with fail
    refine (contains2 _ ps _ (HS.out.keep B)).mono ?_
    rintro e w9 ⟨rfl, hb⟩
    replace x1 := x1.keep hb
    replace B := bcall B hb
    clear hb q1 f1 l1
    obtain ⟨q1, f1, l1⟩ := x1.all
    cases hp : ps.any badP
    rotate_left
    · obtain rfl : res = 5 := by rw [← HR.out]; unfold winErr; rw [if_neg Hk.out, if_neg (by rw [hN.out]; simp), if_neg (by rw [hO.out]; simp), if_neg hL.out, if_pos hp]
      clear HR HS Hn Hk HK
      go_wp2_with fail
      go_ret
      exact ⟨rfl, B⟩
    have hP := Lib.hid hp
    clear hp
    cases e1 : eqF Wd 0
    rotate_left
    · have g1 : (FloatKind.f32.format.order Wd 0 == some .eq) = true := e1
      obtain rfl : res = 12 := by rw [← HR.out]; unfold winErr; rw [if_neg Hk.out, if_neg (by rw [hN.out]; simp), if_neg (by rw [hO.out]; simp), if_neg hL.out, if_neg (by rw [hP.out]; simp), if_pos (.inr ⟨HK.out, by rw [e1]; rfl⟩)]
      clear HR HS Hn Hk HK
      go_wp2_with fail
      go_ret
      exact ⟨rfl, B⟩
    have g1 : (FloatKind.f32.format.order Wd 0 == some .eq) = false := e1
    cases e2 : eqF H 0
    rotate_left
    · have g2 : (FloatKind.f32.format.order H 0 == some .eq) = true := e2
      obtain rfl : res = 12 := by rw [← HR.out]; unfold winErr; rw [if_neg Hk.out, if_neg (by rw [hN.out]; simp), if_neg (by rw [hO.out]; simp), if_neg hL.out, if_neg (by rw [hP.out]; simp), if_pos (.inr ⟨HK.out, by rw [e1, e2]; rfl⟩)]
      clear HR HS Hn Hk HK
      go_wp2_with fail
      go_ret
      exact ⟨rfl, B⟩
    have g2 : (FloatKind.f32.format.order H 0 == some .eq) = false := e2
    obtain rfl : res = 0 := by rw [← HR.out]; unfold winErr; rw [if_neg Hk.out, if_neg (by rw [hN.out]; simp), if_neg (by rw [hO.out]; simp), if_neg hL.out, if_neg (by rw [hP.out]; simp), if_neg (by rintro (⟨h, _⟩ | ⟨_, h⟩); have := HK.out; omega; rw [e1, e2] at h; cases h)]
    clear HR HS Hn Hk HK
    go_wp2_with fail
    go_ret
    exact ⟨rfl, B⟩
  · have HK := Lib.hid hk
    clear hk
    go_upto_region 5 with fail
    go_wp2_with fail
    refine name_callw ?_
    intro w1 hw1
    have x5 : Bx w1 w0.heap.size 22 #[.float .f32 X, .float .f32 Y, .float .f32 Wd, .float .f32 H, .float .f32 S] := by rw [hw1]; exact Bx.new _ _ _
    replace x1 : Bx w1 W.heap.size 25 #[.int .i64 kind, .float .f32 X, .float .f32 Y, .float .f32 Wd, .float .f32 H, .float .f32 S, .slice a n c, .bool out] := by rw [hw1]; exact x1.alloc _
    replace B : Below W.heap.size W w1 := by rw [hw1]; exact bnew B
    clear hw1
    refine (num_AllNumbers [X, Y, Wd, H, S] _ 5 _ _ rfl (by decide) (rd5 x5)).mono ?_
    rintro e w2 ⟨rfl, hb⟩
    clear x5
    replace x1 := x1.keep hb
    replace B := bcall B hb
    clear hb q1 f1 l1
    obtain ⟨q1, f1, l1⟩ := x1.all
    cases hnum : [X, Y, Wd, H, S].all isNum
    · obtain rfl : res = 2 := by rw [← HR.out]; unfold winErr; rw [if_neg Hk.out, if_pos hnum]
      clear HR HS Hn Hk HK
      go_wp2_with fail
      go_ret
      exact ⟨rfl, B⟩
    have hN := Lib.hid hnum
    clear hnum
    go_upto_region 7 with fail
    go_wp2_with fail
    refine (check1 X 3380609024 1233125376 _).mono ?_
    cases ho0 : outF X 3380609024 1233125376
    rotate_left
    · rintro e w3 ⟨rfl, rfl⟩
      obtain rfl : res = 3 := by rw [← HR.out]; unfold winErr; rw [if_neg Hk.out, if_neg (by rw [hN.out]; simp), if_pos (by simp [ho0])]
      clear HR HS Hn Hk HK
      go_wp2_with fail
      go_ret
      exact ⟨rfl, B⟩
    rintro e w3 ⟨rfl, rfl⟩
    go_wp2_with fail
    refine (check1 Y 3380609024 1233125376 _).mono ?_
    cases ho1 : outF Y 3380609024 1233125376
    rotate_left
    · rintro e w3 ⟨rfl, rfl⟩
      obtain rfl : res = 3 := by rw [← HR.out]; unfold winErr; rw [if_neg Hk.out, if_neg (by rw [hN.out]; simp), if_pos (by simp [ho0, ho1])]
      clear HR HS Hn Hk HK
      go_wp2_with fail
      go_ret
      exact ⟨rfl, B⟩
    rintro e w4 ⟨rfl, rfl⟩
    go_wp2_with fail
    refine (check1 Wd 0 1233125376 _).mono ?_
    cases ho2 : outF Wd 0 1233125376
    rotate_left
    · rintro e w3 ⟨rfl, rfl⟩
      obtain rfl : res = 3 := by rw [← HR.out]; unfold winErr; rw [if_neg Hk.out, if_neg (by rw [hN.out]; simp), if_pos (by simp [ho0, ho1, ho2])]
      clear HR HS Hn Hk HK
      go_wp2_with fail
      go_ret
      exact ⟨rfl, B⟩
    rintro e w5 ⟨rfl, rfl⟩
    go_wp2_with fail
    refine (check1 H 0 1233125376 _).mono ?_
    cases ho3 : outF H 0 1233125376
    rotate_left
    · rintro e w3 ⟨rfl, rfl⟩
      obtain rfl : res = 3 := by rw [← HR.out]; unfold winErr; rw [if_neg Hk.out, if_neg (by rw [hN.out]; simp), if_pos (by simp [ho0, ho1, ho2, ho3])]
      clear HR HS Hn Hk HK
      go_wp2_with fail
      go_ret
      exact ⟨rfl, B⟩
    rintro e w6 ⟨rfl, rfl⟩
    go_wp2_with fail
    refine (check1 S 0 1166016512 _).mono ?_
    cases ho4 : outF S 0 1166016512
    rotate_left
    · rintro e w3 ⟨rfl, rfl⟩
      obtain rfl : res = 3 := by rw [← HR.out]; unfold winErr; rw [if_neg Hk.out, if_neg (by rw [hN.out]; simp), if_pos (by simp [ho0, ho1, ho2, ho3, ho4])]
      clear HR HS Hn Hk HK
      go_wp2_with fail
      go_ret
      exact ⟨rfl, B⟩
    rintro e w7 ⟨rfl, rfl⟩
    have hO : Hid ((outF X 3380609024 1233125376 || outF Y 3380609024 1233125376 || outF Wd 0 1233125376 || outF H 0 1233125376 || outF S 0 1166016512) = false) := Lib.hid (by rw [ho0, ho1, ho2, ho3, ho4]; rfl)
    clear ho0 ho1 ho2 ho3 ho4
    go_upto_region 9 with fail
    by_cases hl1 : n < 3
    · have d1 : decide ((n : Int) < 3) = true := decide_eq_true (by omega)
      obtain rfl : res = 3 := by rw [← HR.out]; unfold winErr; rw [if_neg Hk.out, if_neg (by rw [hN.out]; simp), if_neg (by rw [hO.out]; simp), if_pos (.inl ⟨HK.out, .inl (by rw [← Hn.out]; exact hl1)⟩)]
      clear HR HS Hn Hk HK hl1
      go_wp2_with fail
      go_ret
      exact ⟨rfl, B⟩
    have d1 : decide ((n : Int) < 3) = false := decide_eq_false (by omega)
    by_cases hl2 : 32 < n
    · have d2 : decide (32 < (n : Int)) = true := decide_eq_true (by omega)
      obtain rfl : res = 3 := by rw [← HR.out]; unfold winErr; rw [if_neg Hk.out, if_neg (by rw [hN.out]; simp), if_neg (by rw [hO.out]; simp), if_pos (.inl ⟨HK.out, .inr (by rw [← Hn.out]; exact hl2)⟩)]
      clear HR HS Hn Hk HK hl1 hl2
      go_wp2_with fail
      go_ret
      exact ⟨rfl, B⟩
    have d2 : decide (32 < (n : Int)) = false := decide_eq_false (by omega)
    have hL : Hid (¬ ((kind = 3 ∧ (ps.length < 3 ∨ 32 < ps.length)) ∨ (kind ≠ 3 ∧ 0 < ps.length))) := Lib.hid (by have := Hn.out; have := HK.out; omega)
    clear hl1 hl2
    go_upto_region 11 with fail
    go_wp2_with fail
    refine (contains2 _ ps _ (HS.out.keep B)).mono ?_
    rintro e w9 ⟨rfl, hb⟩
    replace x1 := x1.keep hb
    replace B := bcall B hb
    clear hb q1 f1 l1
    obtain ⟨q1, f1, l1⟩ := x1.all
    cases hp : ps.any badP
    rotate_left
    · obtain rfl : res = 5 := by rw [← HR.out]; unfold winErr; rw [if_neg Hk.out, if_neg (by rw [hN.out]; simp), if_neg (by rw [hO.out]; simp), if_neg hL.out, if_pos hp]
      clear HR HS Hn Hk HK
      go_wp2_with fail
      go_ret
      exact ⟨rfl, B⟩
    have hP := Lib.hid hp
    clear hp
    cases e0 : eqF X 0
    · have g0 : (FloatKind.f32.format.order X 0 != some .eq) = true := by have : (FloatKind.f32.format.order X 0 == some .eq) = false := e0; rw [bne, this]; rfl
      obtain rfl : res = 12 := by rw [← HR.out]; unfold winErr; rw [if_neg Hk.out, if_neg (by rw [hN.out]; simp), if_neg (by rw [hO.out]; simp), if_neg hL.out, if_neg (by rw [hP.out]; simp), if_pos (.inl ⟨HK.out, by simp [e0]⟩)]
      clear HR HS Hn Hk HK
      go_wp2_with fail
      go_ret
      exact ⟨rfl, B⟩
    have g0 : (FloatKind.f32.format.order X 0 != some .eq) = false := by have : (FloatKind.f32.format.order X 0 == some .eq) = true := e0; rw [bne, this]; rfl
    cases e1 : eqF Y 0
    · have g1 : (FloatKind.f32.format.order Y 0 != some .eq) = true := by have : (FloatKind.f32.format.order Y 0 == some .eq) = false := e1; rw [bne, this]; rfl
      obtain rfl : res = 12 := by rw [← HR.out]; unfold winErr; rw [if_neg Hk.out, if_neg (by rw [hN.out]; simp), if_neg (by rw [hO.out]; simp), if_neg hL.out, if_neg (by rw [hP.out]; simp), if_pos (.inl ⟨HK.out, by simp [e0, e1]⟩)]
      clear HR HS Hn Hk HK
      go_wp2_with fail
      go_ret
      exact ⟨rfl, B⟩
    have g1 : (FloatKind.f32.format.order Y 0 != some .eq) = false := by have : (FloatKind.f32.format.order Y 0 == some .eq) = true := e1; rw [bne, this]; rfl
    cases e2 : eqF Wd 0
    · have g2 : (FloatKind.f32.format.order Wd 0 != some .eq) = true := by have : (FloatKind.f32.format.order Wd 0 == some .eq) = false := e2; rw [bne, this]; rfl
      obtain rfl : res = 12 := by rw [← HR.out]; unfold winErr; rw [if_neg Hk.out, if_neg (by rw [hN.out]; simp), if_neg (by rw [hO.out]; simp), if_neg hL.out, if_neg (by rw [hP.out]; simp), if_pos (.inl ⟨HK.out, by simp [e0, e1, e2]⟩)]
      clear HR HS Hn Hk HK
      go_wp2_with fail
      go_ret
      exact ⟨rfl, B⟩
    have g2 : (FloatKind.f32.format.order Wd 0 != some .eq) = false := by have : (FloatKind.f32.format.order Wd 0 == some .eq) = true := e2; rw [bne, this]; rfl
    cases e3 : eqF H 0
    · have g3 : (FloatKind.f32.format.order H 0 != some .eq) = true := by have : (FloatKind.f32.format.order H 0 == some .eq) = false := e3; rw [bne, this]; rfl
      obtain rfl : res = 12 := by rw [← HR.out]; unfold winErr; rw [if_neg Hk.out, if_neg (by rw [hN.out]; simp), if_neg (by rw [hO.out]; simp), if_neg hL.out, if_neg (by rw [hP.out]; simp), if_pos (.inl ⟨HK.out, by simp [e0, e1, e2, e3]⟩)]
      clear HR HS Hn Hk HK
      go_wp2_with fail
      go_ret
      exact ⟨rfl, B⟩
    have g3 : (FloatKind.f32.format.order H 0 != some .eq) = false := by have : (FloatKind.f32.format.order H 0 == some .eq) = true := e3; rw [bne, this]; rfl
    cases e4 : eqF S 0
    · have g4 : (FloatKind.f32.format.order S 0 != some .eq) = true := by have : (FloatKind.f32.format.order S 0 == some .eq) = false := e4; rw [bne, this]; rfl
      obtain rfl : res = 12 := by rw [← HR.out]; unfold winErr; rw [if_neg Hk.out, if_neg (by rw [hN.out]; simp), if_neg (by rw [hO.out]; simp), if_neg hL.out, if_neg (by rw [hP.out]; simp), if_pos (.inl ⟨HK.out, by simp [e0, e1, e2, e3, e4]⟩)]
      clear HR HS Hn Hk HK
      go_wp2_with fail
      go_ret
      exact ⟨rfl, B⟩
    have g4 : (FloatKind.f32.format.order S 0 != some .eq) = false := by have : (FloatKind.f32.format.order S 0 == some .eq) = true := e4; rw [bne, this]; rfl
    obtain rfl : res = 0 := by rw [← HR.out]; unfold winErr; rw [if_neg Hk.out, if_neg (by rw [hN.out]; simp), if_neg (by rw [hO.out]; simp), if_neg hL.out, if_neg (by rw [hP.out]; simp), if_neg (by rintro (⟨_, h⟩ | ⟨h, _⟩); rw [e0, e1, e2, e3, e4] at h; cases h; have := HK.out; omega)]
    clear HR HS Hn Hk HK
    go_wp2_with fail
    go_ret
    exact ⟨rfl, B⟩
end Go.Proofs.Ytfkiljhjiogdlaa
