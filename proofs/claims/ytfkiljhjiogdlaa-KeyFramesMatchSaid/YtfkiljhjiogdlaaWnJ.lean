/- key.Moved, whole; what is moved covers as before. -/
import Derived.Test.YtfkiljhjiogdlaaWnI
namespace Go.Proofs.Ytfkiljhjiogdlaa
open Go.RowKit

theorem key_Moved (kind : Int) (X Y Wd H S : Nat) (pa : Option Addr) (n c : Nat) (ps : List (Int × Int)) (out : Bool) (dx dy : Int) (W : World) (hs : SlP W (.slice pa n c) ps) :
    Calls Try.prog 8 #[.agg #[.int .i64 kind, .float .f32 X, .float .f32 Y, .float .f32 Wd, .float .f32 H, .float .f32 S, .slice pa n c, .bool out], .int .i64 dx, .int .i64 dy] W
      (MovR kind (movX kind X dx) (movX kind Y dy) Wd H S (ps.map (mov dx dy)) out (movErr kind X Y Wd H S ps dx dy) W.heap.size W) := by
  by_cases h0 : winErr kind X Y Wd H S ps = 0
  · by_cases hp : plB dx = false ∨ plB dy = false
    · rw [show movErr kind X Y Wd H S ps dx dy = 3 by unfold movErr; rw [if_neg (by simp [h0]), if_pos hp]]
      exact key_Moved_far kind X Y Wd H S pa n c ps out dx dy W hs h0 hp _ _ _
    · have hp1 : plB dx = true := by cases h : plB dx; exact absurd (.inl h) hp; rfl
      have hp2 : plB dy = true := by cases h : plB dy; exact absurd (.inr h) hp; rfl
      rw [show movErr kind X Y Wd H S ps dx dy = winErr kind (movX kind X dx) (movX kind Y dy) Wd H S (ps.map (mov dx dy)) by unfold movErr; rw [if_neg (by simp [h0]), if_neg hp]]
      by_cases hk : kind = 3
      · have e : ∀ Z d, movX kind Z d = Z := fun Z d => by unfold movX; rw [if_pos hk]
        rw [e, e]
        exact key_Moved_poly kind X Y Wd H S pa n c ps out dx dy W hs _ (by rw [← hk]; exact h0) hk hp1 hp2 _ rfl X Y rfl rfl rfl
      · have hps : ps = [] := by rcases win_len h0 with h | h; exact absurd h.1 hk; exact List.eq_nil_of_length_eq_zero h.2
        subst hps
        have e : ∀ Z d, movX kind Z d = fop .add Z (floatOfInt .f32 d) := fun Z d => by unfold movX; rw [if_neg hk]
        rw [e, e]
        exact key_Moved_flat kind X Y Wd H S pa n c [] out dx dy W hs _ h0 hk hp1 hp2 _ _ rfl rfl rfl
  · rw [show movErr kind X Y Wd H S ps dx dy = winErr kind X Y Wd H S ps by unfold movErr; rw [if_pos h0]]
    exact key_Moved_err kind X Y Wd H S pa n c ps out dx dy W hs _ rfl h0 _ _ _

theorem getD_mov (ps : List (Int × Int)) (dx dy : Int) {k : Nat} (hk : k < ps.length) : (ps.map (mov dx dy)).getD k default = mov dx dy (ps.getD k default) := by simp [List.getD, hk]
theorem crossAt_mov (ps : List (Int × Int)) (dx dy x y : Int) {k : Nat} (hk : k < ps.length) : crossAt (ps.map (mov dx dy)) (x + dx) (y + dy) k = crossAt ps x y k := by
  have hm : (k + 1) % ps.length < ps.length := Nat.mod_lt _ (by omega)
  unfold crossAt
  rw [List.length_map, getD_mov ps dx dy hk, getD_mov ps dx dy hm]
  generalize ps.getD k default = p
  generalize ps.getD ((k + 1) % ps.length) default = q
  obtain ⟨p1, p2⟩ := p
  obtain ⟨q1, q2⟩ := q
  simp only [mov]
  have a1 : (y + dy < p2 + dy) = (y < p2) := by simp
  have a2 : (y + dy < q2 + dy) = (y < q2) := by simp
  have a3 : (p2 + dy < q2 + dy) = (p2 < q2) := by simp
  have b1 : x + dx - (p1 + dx) = x - p1 := by omega
  have b2 : q2 + dy - (p2 + dy) = q2 - p2 := by omega
  have b3 : q1 + dx - (p1 + dx) = q1 - p1 := by omega
  have b4 : y + dy - (p2 + dy) = y - p2 := by omega
  simp only [a1, a2, a3, b1, b2, b3, b4]
theorem crossTo_mov (ps : List (Int × Int)) (dx dy x y : Int) : ∀ k, k ≤ ps.length → crossTo (ps.map (mov dx dy)) (x + dx) (y + dy) k = crossTo ps x y k
  | 0, _ => rfl
  | k + 1, h => by
    unfold crossTo
    rw [crossTo_mov ps dx dy x y k (by omega), crossAt_mov ps dx dy x y (by omega)]
theorem covAt_mov (kind ix iy : Int) (Wd H S : Nat) (ps : List (Int × Int)) (out : Bool) (x y dx dy : Int) :
    covAt kind (ix + dx) (iy + dy) Wd H S (ps.map (mov dx dy)) out (x + dx) (y + dy) = covAt kind ix iy Wd H S ps out x y := by
  unfold covAt
  rw [List.length_map, crossTo_mov ps dx dy x y _ (Nat.le_refl _), show x + dx - (ix + dx) = x - ix by omega, show y + dy - (iy + dy) = y - iy by omega]
/-- A polygon's place is of no weight. -/
theorem covAt_poly (ix iy jx jy : Int) (Wd H S : Nat) (ps : List (Int × Int)) (out : Bool) (x y : Int) : covAt 3 ix iy Wd H S ps out x y = covAt 3 jx jy Wd H S ps out x y := by
  unfold covAt covB covV
  simp
end Go.Proofs.Ytfkiljhjiogdlaa
