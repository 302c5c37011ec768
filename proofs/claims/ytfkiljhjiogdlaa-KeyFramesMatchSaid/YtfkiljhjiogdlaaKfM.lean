/- A moved window as a record; the window at a key frame. (printed by gen_lawkf.py) -/
import Derived.Test.YtfkiljhjiogdlaaKfI
import Derived.Test.YtfkiljhjiogdlaaKfK
import Derived.Test.YtfkiljhjiogdlaaKfF
import Derived.Test.YtfkiljhjiogdlaaKfG
import Derived.Test.YtfkiljhjiogdlaaKfC
namespace Go.Proofs.Ytfkiljhjiogdlaa
open Go.RowKit

def zeroW : Wi := ⟨0, 0, 0, 0, 0, 0, [], false⟩
def movW (k : Kf) (dx dy : Int) : Wi := if movErr k.kind k.X k.Y k.Wd k.H k.S k.ps dx dy = 0 then ⟨k.kind, movX k.kind k.X dx, movX k.kind k.Y dy, k.Wd, k.H, k.S, k.ps.map (mov dx dy), k.out⟩ else zeroW
theorem movR_rec {k : Kf} {dx dy : Int} {B : Nat} {W : World} {e : Ending} {w' : World}
    (h : MovR k.kind (movX k.kind k.X dx) (movX k.kind k.Y dy) k.Wd k.H k.S (k.ps.map (mov dx dy)) k.out (movErr k.kind k.X k.Y k.Wd k.H k.S k.ps dx dy) B W e w') :
    (∃ pa pc, e = .returned (.tuple #[(movW k dx dy).val pa pc, .int .i64 (movErr k.kind k.X k.Y k.Wd k.H k.S k.ps dx dy)]) ∧ SlP w' (.slice pa (movW k dx dy).ps.length pc) (movW k dx dy).ps) ∧ Below B W w' := by
  obtain ⟨h, hb⟩ := h
  refine ⟨?_, hb⟩
  rcases h with ⟨h0, rfl⟩ | ⟨h0, a, c, rfl, hs⟩
  · have e1 : movW k dx dy = zeroW := by unfold movW; rw [if_neg h0]
    rw [e1]
    exact ⟨none, 0, rfl, none, 0, rfl, Nat.zero_le _, .inl rfl⟩
  · have e1 : movW k dx dy = ⟨k.kind, movX k.kind k.X dx, movX k.kind k.Y dy, k.Wd, k.H, k.S, k.ps.map (mov dx dy), k.out⟩ := by unfold movW; rw [if_pos h0]
    rw [e1, h0]
    exact ⟨a, c, rfl, hs⟩
def Kf.agg (k : Kf) : Value := .agg #[.int .i64 k.kind, .float .f32 k.X, .float .f32 k.Y, .float .f32 k.Wd, .float .f32 k.H, .float .f32 k.S, .slice k.pa k.ps.length k.pc, .bool k.out]
theorem key_MovedR (k : Kf) (dx dy : Int) (W : World) (hs : SlP W k.pv k.ps) :
    Calls Try.prog 8 #[k.agg, .int .i64 dx, .int .i64 dy] W fun e w' => (∃ pa pc, e = .returned (.tuple #[(movW k dx dy).val pa pc, .int .i64 (movErr k.kind k.X k.Y k.Wd k.H k.S k.ps dx dy)]) ∧ SlP w' (.slice pa (movW k dx dy).ps.length pc) (movW k dx dy).ps) ∧ Below W.heap.size W w' :=
  (key_Moved k.kind k.X k.Y k.Wd k.H k.S k.pa k.ps.length k.pc k.ps k.out dx dy W hs).mono fun _ _ h => movR_rec h
theorem ref_MovedR (k : Kf) (dx dy : Int) (W : World) (hs : SlP W k.pv k.ps) :
    Calls Try.prog 15 #[k.agg, .int .i64 dx, .int .i64 dy] W fun e w' => (∃ pa pc, e = .returned (.tuple #[(movW k dx dy).val pa pc, .int .i64 (movErr k.kind k.X k.Y k.Wd k.H k.S k.ps dx dy)]) ∧ SlP w' (.slice pa (movW k dx dy).ps.length pc) (movW k dx dy).ps) ∧ Below W.heap.size W w' :=
  (ref_Moved k.kind k.X k.Y k.Wd k.H k.S k.pa k.ps.length k.pc k.ps k.out dx dy W hs).mono fun _ _ h => movR_rec h
theorem fr_mono {ks : List Kf} (h : kfsErr ks = 0) : ∀ k, k < ks.length → ∀ j, j ≤ k → (ks.getD j default).fr ≤ (ks.getD k default).fr := by
  obtain ⟨_, _, hall⟩ := kfs_ok h
  intro k
  induction k with
  | zero => intro _ j hj; rw [show j = 0 by omega]; exact Int.le_refl _
  | succ k ih =>
    intro hk j hj
    rcases Nat.lt_or_eq_of_le hj with h1 | rfl
    · have a := ih (by omega) j (by omega)
      have b := (hall (k + 1) hk).2.2.2.2.2.1 (by omega)
      rw [Nat.add_sub_cancel] at b
      omega
    · exact Int.le_refl _
theorem win_at {ks : List Kf} (h : kfsErr ks = 0) {k i : Nat} (hk : k < ks.length) (hi : IsIdx ks (ks.getD k default).fr i) : winOf ks (ks.getD k default).fr i = (ks.getD k default).wi := by
  have h1 : IsIdx ks (ks.getD k default).fr (k + 1) := by
    refine ⟨by omega, fun j hj => fr_mono h k hk j (by omega), fun hlt => ?_⟩
    obtain ⟨_, _, hall⟩ := kfs_ok h
    have b := (hall (k + 1) hlt).2.2.2.2.2.1 (by omega)
    rw [Nat.add_sub_cancel] at b
    exact b
  obtain rfl := hi.unique h1
  rw [winOf_one (by omega) (.inr (by rw [Nat.add_sub_cancel])), Nat.add_sub_cancel]
theorem key_Between_at (v : Value) (ks : List Kf) (k : Nat) (hk : k < ks.length) (W : World) (hs : SlK W v ks) (hok : kfsErr ks = 0) :
    Calls Try.prog 11 #[v, .int .i64 (ks.getD k default).fr] W fun e w' => (∃ pa pc, e = .returned (.tuple #[((ks.getD k default).wi).val pa pc, .int .i64 0]) ∧ SlP w' (.slice pa (ks.getD k default).ps.length pc) (ks.getD k default).ps) ∧ Below W.heap.size W w' := by
  refine (key_Between_ok v ks _ W hs hok).mono ?_
  rintro e w' ⟨i, hi, pa, pc, rfl, hsp, hb⟩
  rw [win_at hok hk hi] at hsp ⊢
  exact ⟨⟨pa, pc, rfl, hsp⟩, hb⟩
theorem idx_exists (ks : List Kf) (f : Int) (n : Nat) (hn : n ≤ ks.length) : (∃ i, i < n ∧ IsIdx ks f i) ∨ ∀ j, j < n → (ks.getD j default).fr ≤ f := by
  induction n with
  | zero => exact .inr fun j hj => by omega
  | succ n ih =>
    rcases ih (by omega) with ⟨i, h1, h2⟩ | h
    · exact .inl ⟨i, by omega, h2⟩
    · by_cases hf : (ks.getD n default).fr ≤ f
      · right
        intro j hj
        rcases Nat.lt_or_eq_of_le (Nat.le_of_lt_succ hj) with h1 | rfl
        · exact h j h1
        · exact hf
      · exact .inl ⟨n, by omega, by omega, h, fun _ => by omega⟩
theorem idx_is (ks : List Kf) (f : Int) : ∃ i, IsIdx ks f i := by
  rcases idx_exists ks f ks.length (Nat.le_refl _) with ⟨i, _, h⟩ | h
  · exact ⟨i, h⟩
  · exact ⟨ks.length, Nat.le_refl _, h, fun h => by omega⟩
/-- The window between key frames. -/
noncomputable def btw (ks : List Kf) (f : Int) : Wi := winOf ks f (Classical.choose (idx_is ks f))
theorem btw_is {ks : List Kf} {f : Int} {i : Nat} (h : IsIdx ks f i) : winOf ks f i = btw ks f := by
  unfold btw
  rw [h.unique (Classical.choose_spec (idx_is ks f))]
theorem key_BetweenR (v : Value) (ks : List Kf) (f : Int) (W : World) (hs : SlK W v ks) (hok : kfsErr ks = 0) :
    Calls Try.prog 11 #[v, .int .i64 f] W fun e w' => (∃ pa pc, e = .returned (.tuple #[(btw ks f).val pa pc, .int .i64 0]) ∧ SlP w' (.slice pa (btw ks f).ps.length pc) (btw ks f).ps) ∧ Below W.heap.size W w' := by
  refine (key_Between_ok v ks f W hs hok).mono ?_
  rintro e w' ⟨i, hi, pa, pc, rfl, hsp, hb⟩
  rw [btw_is hi] at hsp ⊢
  exact ⟨⟨pa, pc, rfl, hsp⟩, hb⟩
theorem ref_BetweenR (v : Value) (ks : List Kf) (f : Int) (W : World) (hs : SlK W v ks) (hok : kfsErr ks = 0) :
    Calls Try.prog 14 #[v, .int .i64 f] W fun e w' => (∃ pa pc, e = .returned ((btw ks f).val pa pc) ∧ SlP w' (.slice pa (btw ks f).ps.length pc) (btw ks f).ps) ∧ Below W.heap.size W w' := by
  refine (ref_Between v ks f W hs hok).mono ?_
  rintro e w' ⟨i, hi, pa, pc, rfl, hsp, hb⟩
  rw [btw_is hi] at hsp ⊢
  exact ⟨⟨pa, pc, rfl, hsp⟩, hb⟩
end Go.Proofs.Ytfkiljhjiogdlaa
