/- scope.CheckBins. -/
import Derived.Test.YtoffnmpnhddaiaaHsA
import Derived.Test.YtoffnmpnhddaiaaNum2
namespace Go.Proofs.Ytoffnmpnhddaiaa
open Go.RowKit

def binsErr (lo hi : Nat) (n : Int) : Int := if (isNum lo && isNum hi) = false then 2 else if ltB lo hi = false then 8 else if n < 1 ∨ 1024 < n then 3 else 0
theorem binsErr_ok {lo hi : Nat} {n : Int} (h : binsErr lo hi n = 0) : isNum lo = true ∧ isNum hi = true ∧ ltB lo hi = true ∧ 1 ≤ n ∧ n ≤ 1024 := by
  unfold binsErr at h
  split at h
  · omega
  · rename_i h1
    split at h
    · omega
    · rename_i h2
      split at h
      · omega
      · simp at h1 h2
        exact ⟨h1.1, h1.2, h2, by omega, by omega⟩

set_option maxRecDepth 100000 in
set_option maxHeartbeats 2000000 in
theorem scope_CheckBins (lo hi : Nat) (n : Int) (W : World) :
    Calls Try.prog 147 #[.agg #[.float .f32 lo, .float .f32 hi, .int .i64 n]] W fun e w' => e = .returned (.int .i64 (binsErr lo hi n)) ∧ Below W.heap.size W w' := by
  generalize hr : binsErr lo hi n = res
  have hall : [lo, hi].all isNum = (isNum lo && isNum hi) := by simp
  unfold binsErr at hr
  generalize hb : (isNum lo && isNum hi) = b at hr
  rw [hb] at hall
  have Hall := Lib.hid hall
  have Hr := Lib.hid hr
  clear hr hb hall
  go_enter Try.func147, Try.ntmps147
  go_upto_region 1 with fail
  refine name_world ?_
  intro wb hwb
  have x1 : Bx wb W.heap.size 107 #[.float .f32 lo, .float .f32 hi, .int .i64 n] := by rw [hwb]; exact Bx.new _ _ _
  have B1 : Below W.heap.size W wb := by rw [hwb]; exact bnew (Below.refl _ W)
  clear hwb
  obtain ⟨q1, f1, l1⟩ := x1.all
  go_wp2_with fail
  refine nm_call ?_
  intro wn hwn
  have rd : Rd wn wb.heap.size 0 [lo, hi] := by
    have x : Bx wn wb.heap.size 33 #[.float .f32 lo, .float .f32 hi] := by rw [hwn]; exact Bx.new _ _ _
    refine ⟨x.lt, fun k hk => ?_⟩
    rw [Nat.zero_add, x.all.1 k]
    match k, hk with
    | 0, _ => rfl
    | 1, _ => rfl
  have y1 : Bx wn W.heap.size 107 #[.float .f32 lo, .float .f32 hi, .int .i64 n] := by rw [hwn]; exact x1.alloc _
  have B2 : Below W.heap.size W wn := by rw [hwn]; exact bnew B1
  clear hwn x1 B1 q1 f1 l1
  refine (num_AllNumbers [lo, hi] _ 2 2 _ rfl (by omega) rd).mono ?_
  rw [Hall.out]
  rintro e w2 ⟨rfl, hb2⟩
  have z1 := y1.keep hb2
  have B3 := bcall B2 hb2
  clear y1 B2 hb2 rd
  obtain ⟨q1, f1, l1⟩ := z1.all
  cases b
  · go_wp2_with fail
    go_ret
    exact ⟨ret_int (by have := Hr.out; simpa using this), B3⟩
  · cases h2 : ltB lo hi
    · have g2 : (FloatKind.f32.format.order lo hi == some .lt) = false := h2
      have Hr2 := Lib.hid (show res = 8 from by have := Hr.out; rw [h2] at this; simpa using this.symm)
      clear h2 Hr
      go_wp2_with fail
      go_ret
      exact ⟨ret_int Hr2.out.symm, B3⟩
    · have g2 : (FloatKind.f32.format.order lo hi == some .lt) = true := h2
      have Hr2 := Lib.hid (show res = if n < 1 ∨ 1024 < n then 3 else 0 from by have := Hr.out; rw [h2] at this; simpa using this.symm)
      clear h2 Hr
      by_cases h3 : n < 1
      · have g3 : decide (n < 1) = true := by simpa using h3
        go_wp2_with fail
        go_ret
        exact ⟨ret_int (by rw [Hr2.out, if_pos (.inl h3)]), B3⟩
      · have g3 : decide (n < 1) = false := by simpa using h3
        by_cases h4 : 1024 < n
        · have g4 : decide (1024 < n) = true := by simpa using h4
          go_wp2_with fail
          go_ret
          exact ⟨ret_int (by rw [Hr2.out, if_pos (.inr h4)]), B3⟩
        · have g4 : decide (1024 < n) = false := by simpa using h4
          go_wp2_with fail
          go_ret
          exact ⟨ret_int (by rw [Hr2.out, if_neg (by omega)]), B3⟩
end Go.Proofs.Ytoffnmpnhddaiaa
