/- The window between key frames, plain. -/
import Derived.Test.YtfkiljhjiogdlaaKfE
import Derived.Test.YtfkiljhjiogdlaaWnG
import Derived.Test.YtfkiljhjiogdlaaLate
import Derived.Test.YtfkiljhjiogdlaaGrd
namespace Go.Proofs.Ytfkiljhjiogdlaa
open Go.RowKit

theorem kfs_ok {ks : List Kf} (h : kfsErr ks = 0) : 0 < ks.length ∧ ks.length ≤ 100 ∧ ∀ k, k < ks.length → 0 ≤ (ks.getD k default).fr ∧ (ks.getD k default).fr ≤ 16777216 ∧ 1 ≤ (ks.getD k default).ease ∧ (ks.getD k default).ease ≤ 3 ∧ (ks.getD k default).win = 0 ∧
    (0 < k → (ks.getD (k - 1) default).fr < (ks.getD k default).fr) ∧ (ks.getD k default).kind = (ks.getD 0 default).kind ∧ (ks.getD k default).out = (ks.getD 0 default).out ∧ (ks.getD k default).ps.length = (ks.getD 0 default).ps.length := by
  unfold kfsErr at h
  split at h
  · cases h
  split at h
  · cases h
  refine ⟨by omega, by omega, fun k hk => ?_⟩
  have hz := kfsTo_zero ks ks.length h k hk
  unfold kfAt kfErr at hz
  split at hz
  · cases hz
  split at hz
  · cases hz
  split at hz
  · rename_i hw; exact absurd hz hw
  split at hz
  · cases hz
  split at hz
  · cases hz
  rename_i c1 c2 c3 c4 c5
  unfold kfCf at c5
  simp only [Bool.or_eq_true, decide_eq_true_eq, ne_eq, not_or, Classical.not_not] at c5
  exact ⟨by omega, by omega, by omega, by omega, by simpa using c3, by omega, c5.1, c5.2.1, c5.2.2⟩
/-- What a window is. -/
structure Wi where
  kind : Int
  X : Nat
  Y : Nat
  Wd : Nat
  H : Nat
  S : Nat
  ps : List (Int × Int)
  out : Bool
def Wi.val (x : Wi) (pa : Option Addr) (pc : Nat) : Value := .agg #[.int .i64 x.kind, .float .f32 x.X, .float .f32 x.Y, .float .f32 x.Wd, .float .f32 x.H, .float .f32 x.S, .slice pa x.ps.length pc, .bool x.out]
def Kf.wi (k : Kf) : Wi := ⟨k.kind, k.X, k.Y, k.Wd, k.H, k.S, k.ps, k.out⟩
def mixI (x y : Int) (t : Nat) : Int := nearV (lerpV (floatOfInt .f32 x) (floatOfInt .f32 y) t)
def mixP (p q : List (Int × Int)) (t : Nat) : List (Int × Int) := (List.range p.length).map fun k => (mixI (p.getD k default).1 (q.getD k default).1 t, mixI (p.getD k default).2 (q.getD k default).2 t)
def mixW (a b : Kf) (t : Nat) : Wi := ⟨a.kind, lerpV a.X b.X t, lerpV a.Y b.Y t, lerpV a.Wd b.Wd t, lerpV a.H b.H t, lerpV a.S b.S t, mixP a.ps b.ps t, a.out⟩
def shareT (ease fa fb f : Int) : Nat := if ease = 3 then smB (fop .quo (floatOfInt .f32 (f - fa)) (floatOfInt .f32 (fb - fa))) else if ease = 1 then 0 else fop .quo (floatOfInt .f32 (f - fa)) (floatOfInt .f32 (fb - fa))
/-- i: the first key frame behind frame f, or the number of key frames. -/
def IsIdx (ks : List Kf) (f : Int) (i : Nat) : Prop := i ≤ ks.length ∧ (∀ j, j < i → (ks.getD j default).fr ≤ f) ∧ (i < ks.length → f < (ks.getD i default).fr)
theorem IsIdx.unique {ks : List Kf} {f : Int} {i j : Nat} (hi : IsIdx ks f i) (hj : IsIdx ks f j) : i = j := by
  obtain ⟨a1, a2, a3⟩ := hi
  obtain ⟨b1, b2, b3⟩ := hj
  rcases Nat.lt_trichotomy i j with h | h | h
  · have := a3 (by omega); have := b2 i h; omega
  · exact h
  · have := b3 (by omega); have := a2 j h; omega
def winOf (ks : List Kf) (f : Int) (i : Nat) : Wi :=
  if i = 0 then (ks.getD 0 default).wi else if i = ks.length ∨ (ks.getD (i - 1) default).fr = f then (ks.getD (i - 1) default).wi
  else mixW (ks.getD (i - 1) default) (ks.getD i default) (shareT (ks.getD (i - 1) default).ease (ks.getD (i - 1) default).fr (ks.getD i default).fr f)
theorem winOf_one {ks : List Kf} {f : Int} {i : Nat} (h0 : i ≠ 0) (h : i = ks.length ∨ (ks.getD (i - 1) default).fr = f) : winOf ks f i = (ks.getD (i - 1) default).wi := by unfold winOf; rw [if_neg h0, if_pos h]
theorem winOf_mix {ks : List Kf} {f : Int} {i : Nat} (h0 : i ≠ 0) (h1 : i ≠ ks.length) (h2 : (ks.getD (i - 1) default).fr ≠ f) : winOf ks f i = mixW (ks.getD (i - 1) default) (ks.getD i default) (shareT (ks.getD (i - 1) default).ease (ks.getD (i - 1) default).fr (ks.getD i default).fr f) := by unfold winOf; rw [if_neg h0, if_neg (by rintro (h | h); exact h1 h; exact h2 h)]
theorem share_num {ease fa fb f : Int} (h0 : 0 ≤ fa) (h1 : fa < f) (h2 : f < fb) (h3 : fb ≤ 16777216) : ∃ s m i, rd (shareT ease fa fb f) = .number s m i := by
  obtain ⟨a, ha⟩ : ∃ a : Nat, f - fa = (a : Int) := ⟨(f - fa).toNat, by omega⟩
  obtain ⟨b, hb⟩ : ∃ b : Nat, fb - fa = (b : Int) := ⟨(fb - fa).toNat, by omega⟩
  obtain ⟨k, l, h⟩ := (share_dbl' (a := a) (b := b) (by omega) (by omega) (by omega) (by omega)).2
  unfold shareT
  rw [ha, hb]
  split
  · exact smB_num (by rw [isNaN_iff, h]; rfl)
  · split
    · exact ⟨_, _, _, rd_zero⟩
    · exact ⟨_, _, _, h⟩
theorem quo_nn' {fa fb f : Int} (h0 : 0 ≤ fa) (h1 : fa < f) (h2 : f < fb) (h3 : fb ≤ 16777216) : isNaN (fop .quo (floatOfInt .f32 (f - fa)) (floatOfInt .f32 (fb - fa))) = false := by
  obtain ⟨a, ha⟩ : ∃ a : Nat, f - fa = (a : Int) := ⟨(f - fa).toNat, by omega⟩
  obtain ⟨b, hb⟩ : ∃ b : Nat, fb - fa = (b : Int) := ⟨(fb - fa).toNat, by omega⟩
  obtain ⟨k, l, h⟩ := (share_dbl' (a := a) (b := b) (by omega) (by omega) (by omega) (by omega)).2
  rw [ha, hb, isNaN_iff, h]; rfl
theorem below_eqK {w w0 : World} {ob : Obj} (h : w = w0.alloc ob) : Below w0.heap.size w0 w := by rw [h]; exact bnew (Below.refl _ _)
theorem PtAt.keep2 {w w' : World} {B b i : Nat} {p : Int × Int} (h : PtAt w b i p) (hb : Below B w w') (hlt : b < B) : PtAt w' b i p := ⟨by rw [hb.cell (p := ⟨b, _, none⟩) hlt]; exact h.1, by rw [hb.cell (p := ⟨b, _, none⟩) hlt]; exact h.2⟩
/-- The points of a copy, the first k of them mixed. -/
def HoldsX (cs : Array Value) (ps qs : List (Int × Int)) (k : Nat) : Prop := ∀ j, j < ps.length → cs[j * 2]? = some (.int .i64 (if j < k then (qs.getD j default).1 else (ps.getD j default).1)) ∧ cs[j * 2 + 1]? = some (.int .i64 (if j < k then (qs.getD j default).2 else (ps.getD j default).2))
theorem HoldsX.start {cs : Array Value} {ps qs : List (Int × Int)} (h : HoldsP cs ps) : HoldsX cs ps qs 0 := fun j hj => by simpa using h j hj
theorem HoldsX.full {cs : Array Value} {ps qs : List (Int × Int)} (h : HoldsX cs ps qs ps.length) (hl : qs.length = ps.length) : HoldsP cs qs := fun j hj => by
  have := h j (by omega)
  rw [if_pos (by omega), if_pos (by omega)] at this
  exact this
theorem HoldsX.step {cs : Array Value} {ps qs : List (Int × Int)} {k : Nat} (h : HoldsX cs ps qs k) (hk : k < ps.length) :
    cs[k * 2]? = some (.int .i64 (ps.getD k default).1) ∧ cs[k * 2 + 1]? = some (.int .i64 (ps.getD k default).2) ∧ HoldsX ((cs.setIfInBounds (k * 2) (.int .i64 (qs.getD k default).1)).setIfInBounds (k * 2 + 1) (.int .i64 (qs.getD k default).2)) ps qs (k + 1) := by
  obtain ⟨a1, a2⟩ := h k hk
  rw [if_neg (by omega)] at a1 a2
  refine ⟨a1, a2, fun j hj => ?_⟩
  obtain ⟨b1, b2⟩ := h j hj
  have l1 := (Array.getElem?_eq_some_iff.1 a1).1
  have l2 := (Array.getElem?_eq_some_iff.1 a2).1
  by_cases hjk : j = k
  · subst hjk
    rw [if_pos (by omega), if_pos (by omega)]
    constructor
    · rw [Array.getElem?_setIfInBounds_ne (by omega), Array.getElem?_setIfInBounds_self_of_lt l1]
    · rw [Array.getElem?_setIfInBounds_self_of_lt (by simpa using l2)]
  · have e : ∀ (x y : Int), (if j < k + 1 then x else y) = if j < k then x else y := by
      intro x y
      by_cases h : j < k
      · rw [if_pos h, if_pos (by omega)]
      · rw [if_neg h, if_neg (by omega)]
    rw [e, e]
    constructor
    · rw [Array.getElem?_setIfInBounds_ne (by omega), Array.getElem?_setIfInBounds_ne (by omega)]; exact b1
    · rw [Array.getElem?_setIfInBounds_ne (by omega), Array.getElem?_setIfInBounds_ne (by omega)]; exact b2
theorem mixP_len (p q : List (Int × Int)) (t : Nat) : (mixP p q t).length = p.length := by unfold mixP; simp
theorem mixP_get (p q : List (Int × Int)) (t k : Nat) (hk : k < p.length) : (mixP p q t).getD k default = (mixI (p.getD k default).1 (q.getD k default).1 t, mixI (p.getD k default).2 (q.getD k default).2 t) := by
  unfold mixP
  simp [List.getD, hk]
end Go.Proofs.Ytfkiljhjiogdlaa
