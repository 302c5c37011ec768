/- Two shots compared. -/
import Derived.Test.YtemlabmmafcapaaGreatDoorDaW
namespace Go.Proofs.YtemlabmmafcapaaGreatDoor
open Go.RowKit
theorem run_eq_f32 (d : Nat) (a b : Nat) (w : World) : (Op.equalIn (d + 1) 31 (.float .f32 a) (.float .f32 b)).run Tryz.prog w = .ok (FloatKind.f32.format.order a b == some .eq) w := by
  unfold Op.equalIn
  simp [go_sem, run_underlying Tryz.underlying31, Op.floatEq]
theorem toList_inj' {a b : ByteArray} (h : a.toList = b.toList) : a = b := by
  rw [Lib.toList_data, Lib.toList_data] at h
  exact ByteArray.ext (Array.toList_inj.1 h)
set_option maxRecDepth 100000 in
theorem run_eq_shot (e1 e2 f1 f2 g1 g2 : Int) (r1 r2 s1 s2 : ByteArray) (h1 h2 : Nat) (w : World) :
    (Op.equalIn 10000 33 (.agg #[.int .i64 e1, .string r1, .int .i64 f1, .string s1, .int .i64 g1, .float .f32 h1]) (.agg #[.int .i64 e2, .string r2, .int .i64 f2, .string s2, .int .i64 g2, .float .f32 h2])).run Tryz.prog w = .ok (decide (e1 = e2) && (decide (r1 = r2) && (decide (f1 = f2) && (decide (s1 = s2) && (decide (g1 = g2) && FloatKind.f32.format.order h1 h2 == some .eq))))) w := by
  have hf := run_eq_f32 9998 h1 h2 w
  have ht : ∀ a b : ByteArray, (a.toList = b.toList) = (a = b) := by
    intro a b
    apply propext
    constructor
    · intro h
      exact toList_inj' h
    · rintro rfl; rfl
  unfold Op.equalIn
  simp [go_sem, hf, ht]
  by_cases c1 : e1 = e2
  · by_cases c2 : r1 = r2
    · by_cases c3 : f1 = f2
      · by_cases c4 : s1 = s2
        · by_cases c5 : g1 = g2
          · by_cases c6 : FloatKind.f32.format.order h1 h2 = some .eq
            · rw [if_pos c1, if_pos c2, if_pos c3, if_pos c4, if_pos c5, if_pos c6]; simp [*]
            · rw [if_pos c1, if_pos c2, if_pos c3, if_pos c4, if_pos c5, if_neg c6]; simp [*]
          · rw [if_pos c1, if_pos c2, if_pos c3, if_pos c4, if_neg c5]; simp [*]
        · rw [if_pos c1, if_pos c2, if_pos c3, if_neg c4]; simp [*]
      · rw [if_pos c1, if_pos c2, if_neg c3]; simp [*]
    · rw [if_pos c1, if_neg c2]; simp [*]
  · rw [if_neg c1]; simp [*]
theorem run_eq_shot0 (f1 f2 g1 g2 : Int) (r1 r2 s1 s2 : ByteArray) (h1 h2 : Nat) (w : World) :
    (Op.equalIn 10000 33 (.agg #[.int .i64 0, .string r1, .int .i64 f1, .string s1, .int .i64 g1, .float .f32 h1]) (.agg #[.int .i64 0, .string r2, .int .i64 f2, .string s2, .int .i64 g2, .float .f32 h2])).run Tryz.prog w = .ok (decide (r1 = r2) && (decide (f1 = f2) && (decide (s1 = s2) && (decide (g1 = g2) && FloatKind.f32.format.order h1 h2 == some .eq)))) w := by
  rw [run_eq_shot, decide_eq_true rfl, Bool.true_and]
end Go.Proofs.YtemlabmmafcapaaGreatDoor
