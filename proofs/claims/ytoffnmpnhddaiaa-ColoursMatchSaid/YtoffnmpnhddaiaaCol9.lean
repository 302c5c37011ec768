/- scope.False of a right frame, where something is wrong. -/
import Derived.Test.YtoffnmpnhddaiaaCol8
namespace Go.Proofs.Ytoffnmpnhddaiaa
open Go.RowKit

set_option maxRecDepth 100000 in
set_option maxHeartbeats 2000000 in
theorem scope_False_w (x y : Int) (w h N b o c wa wb_ wc n : Nat) (e0 : Int) (lv : Value) (ls : List Nat) (W : World) (hM2 : N ≤ 262144) (hck : checkFrame x y w h N = 0) (he : e0 = 2) (hwn : [wa, wb_, wc].all isNum = false) (hs : SlB W lv ls n) :
    Calls Try.prog 54 #[.agg #[.int .i64 x, .int .i64 y, .int .i64 w, .int .i64 h, .slice (some ⟨b, o, none⟩) N c], .agg #[.float .f32 wa, .float .f32 wb_, .float .f32 wc], lv] W fun e w' =>
      e = .returned (.tuple #[.agg #[.int .i64 0, .int .i64 0, .int .i64 0, .int .i64 0, .slice none 0 0], .int .i64 e0]) ∧ Below W.heap.size W w' := by
  have hs0 := hs
  obtain ⟨hl, la, lc, rfl, hmax, hform⟩ := hs
  have hNm : N ≤ maxLen := by unfold maxLen; omega
  subst he
  have Hh := Lib.hid (And.intro hck hwn)
  clear hck hwn hl hform hs0
  go_enter Try.func54, Try.ntmps54
  go_upto_region 1 with fail
  refine name_world ?_
  intro wb hwb
  have z3 : Bx wb W.heap.size 26 #[.int .i64 x, .int .i64 y, .int .i64 w, .int .i64 h, .slice (some ⟨b, o, none⟩) N c] := by rw [hwb]; exact Bx.alloc (Bx.alloc (Bx.alloc (Bx.new _ _ _) _) _) _
  have z4 : Bx wb (W.heap.size + 1) 75 #[.float .f32 wa, .float .f32 wb_, .float .f32 wc] := by rw [hwb]; exact Bx.alloc (Bx.alloc (Bx.at _ (by simp)) _) _
  have z5 : Bx wb (W.heap.size + 1 + 1) 76 #[.slice la n lc] := by rw [hwb]; exact Bx.alloc (Bx.at _ (by simp)) _
  have z6 : Bx wb (W.heap.size + 1 + 1 + 1) 26 #[.int .i64 0, .int .i64 0, .int .i64 0, .int .i64 0, .slice none 0 0] := by rw [hwb]; exact Bx.at _ (by simp)
  have B0 : Below W.heap.size W wb := by rw [hwb]; exact bnew (bnew (bnew (bnew (Below.refl _ W))))
  clear hwb
  obtain ⟨q3, f3, l3⟩ := z3.all
  go_wp2_with fail
  refine (frame_Check _ _ _ _ _ _ _ _ hNm).mono ?_
  rw [Hh.out.1]
  rintro e w1 ⟨rfl, hb1⟩
  have y3 := z3.keep hb1
  have y4 := z4.keep hb1
  have y5 := z5.keep hb1
  have y6 := z6.keep hb1
  have B1 := bcall B0 hb1
  clear z3 z4 z5 z6 B0 hb1 q3 f3 l3
  go_wp2_with fail
  have rd4 : Rd w1 (W.heap.size + 1) 0 [wa, wb_, wc] := by
    refine ⟨y4.lt, fun k hk => ?_⟩
    rw [Nat.zero_add, y4.all.1 k]
    match k, hk with
    | 0, _ => rfl
    | 1, _ => rfl
    | 2, _ => rfl
  refine (num_AllNumbers [wa, wb_, wc] _ 3 3 _ rfl (by omega) rd4).mono ?_
  rw [Hh.out.2]
  rintro e w2 ⟨rfl, hb2⟩
  have z3 := y3.keep hb2
  have z4 := y4.keep hb2
  have z5 := y5.keep hb2
  have z6 := y6.keep hb2
  have B2 := bcall B1 hb2
  clear y3 y4 y5 y6 B1 hb2 rd4
  obtain ⟨q6, f6, l6b⟩ := z6.all
  go_wp2_with fail
  have y6z := (set5 z6 (.int .i64 0) (.int .i64 0) (.int .i64 0) (.int .i64 0) (.slice none 0 0)).1.all.1
  refine bodyPost_ret (v := .tuple #[.agg #[.int .i64 0, .int .i64 0, .int .i64 0, .int .i64 0, .slice none 0 0], .int .i64 2]) (by simp [results, Try.results54, go_sem, y6z]) rfl ⟨rfl, ?_⟩
  repeat (refine bput (by omega) ?_)
  exact B2

set_option maxRecDepth 100000 in
set_option maxHeartbeats 2000000 in
theorem scope_False_b (x y : Int) (w h N b o c wa wb_ wc n : Nat) (e0 : Int) (lv : Value) (ls : List Nat) (W : World) (hM2 : N ≤ 262144) (hck : checkFrame x y w h N = 0) (hne : e0 ≠ 0) (hwn : [wa, wb_, wc].all isNum = true) (hbe : bandsErr ls n = e0) (hs : SlB W lv ls n) :
    Calls Try.prog 54 #[.agg #[.int .i64 x, .int .i64 y, .int .i64 w, .int .i64 h, .slice (some ⟨b, o, none⟩) N c], .agg #[.float .f32 wa, .float .f32 wb_, .float .f32 wc], lv] W fun e w' =>
      e = .returned (.tuple #[.agg #[.int .i64 0, .int .i64 0, .int .i64 0, .int .i64 0, .slice none 0 0], .int .i64 e0]) ∧ Below W.heap.size W w' := by
  have hs0 := hs
  obtain ⟨hl, la, lc, rfl, hmax, hform⟩ := hs
  have hNm : N ≤ maxLen := by unfold maxLen; omega
  have hne2 : (e0 != 0) = true := by simpa using hne
  have Hh := Lib.hid (And.intro hck (And.intro hwn hbe))
  clear hck hwn hbe hl hform hne
  go_enter Try.func54, Try.ntmps54
  go_upto_region 1 with fail
  refine name_world ?_
  intro wb hwb
  have z3 : Bx wb W.heap.size 26 #[.int .i64 x, .int .i64 y, .int .i64 w, .int .i64 h, .slice (some ⟨b, o, none⟩) N c] := by rw [hwb]; exact Bx.alloc (Bx.alloc (Bx.alloc (Bx.new _ _ _) _) _) _
  have z4 : Bx wb (W.heap.size + 1) 75 #[.float .f32 wa, .float .f32 wb_, .float .f32 wc] := by rw [hwb]; exact Bx.alloc (Bx.alloc (Bx.at _ (by simp)) _) _
  have z5 : Bx wb (W.heap.size + 1 + 1) 76 #[.slice la n lc] := by rw [hwb]; exact Bx.alloc (Bx.at _ (by simp)) _
  have z6 : Bx wb (W.heap.size + 1 + 1 + 1) 26 #[.int .i64 0, .int .i64 0, .int .i64 0, .int .i64 0, .slice none 0 0] := by rw [hwb]; exact Bx.at _ (by simp)
  have B0 : Below W.heap.size W wb := by rw [hwb]; exact bnew (bnew (bnew (bnew (Below.refl _ W))))
  clear hwb
  obtain ⟨q3, f3, l3⟩ := z3.all
  go_wp2_with fail
  refine (frame_Check _ _ _ _ _ _ _ _ hNm).mono ?_
  rw [Hh.out.1]
  rintro e w1 ⟨rfl, hb1⟩
  have y3 := z3.keep hb1
  have y4 := z4.keep hb1
  have y5 := z5.keep hb1
  have y6 := z6.keep hb1
  have B1 := bcall B0 hb1
  clear z3 z4 z5 z6 B0 hb1 q3 f3 l3
  go_wp2_with fail
  have rd4 : Rd w1 (W.heap.size + 1) 0 [wa, wb_, wc] := by
    refine ⟨y4.lt, fun k hk => ?_⟩
    rw [Nat.zero_add, y4.all.1 k]
    match k, hk with
    | 0, _ => rfl
    | 1, _ => rfl
    | 2, _ => rfl
  refine (num_AllNumbers [wa, wb_, wc] _ 3 3 _ rfl (by omega) rd4).mono ?_
  rw [Hh.out.2.1]
  rintro e w2 ⟨rfl, hb2⟩
  have z3 := y3.keep hb2
  have z4 := y4.keep hb2
  have z5 := y5.keep hb2
  have z6 := y6.keep hb2
  have B2 := bcall B1 hb2
  clear y3 y4 y5 y6 B1 hb2 rd4
  obtain ⟨q5, f5, l5⟩ := z5.all
  go_wp2_with fail
  refine (scope_CheckBands _ ls n _ (hs0.keep B2)).mono ?_
  rw [Hh.out.2.2]
  rintro e w3 ⟨rfl, hb3⟩
  have y3 := z3.keep hb3
  have y4 := z4.keep hb3
  have y5 := z5.keep hb3
  have y6 := z6.keep hb3
  have B3 := bcall B2 hb3
  clear z3 z4 z5 z6 B2 hb3 q5 f5 l5
  obtain ⟨q6, f6, l6b⟩ := y6.all
  go_wp2_with fail
  have y6z := (set5 y6 (.int .i64 0) (.int .i64 0) (.int .i64 0) (.int .i64 0) (.slice none 0 0)).1.all.1
  refine bodyPost_ret (v := .tuple #[.agg #[.int .i64 0, .int .i64 0, .int .i64 0, .int .i64 0, .slice none 0 0], .int .i64 e0]) (by simp [results, Try.results54, go_sem, y6z]) rfl ⟨rfl, ?_⟩
  repeat (refine bput (by omega) ?_)
  exact B3
end Go.Proofs.Ytoffnmpnhddaiaa
