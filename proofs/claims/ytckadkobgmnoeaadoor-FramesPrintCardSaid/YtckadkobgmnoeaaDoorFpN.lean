/- A frame's text, plain: its lines; the closure that takes the next line. -/
import Derived.Test.YtckadkobgmnoeaaDoorFpF
import Derived.Test.YtckadkobgmnoeaaDoorRg
namespace Go.Proofs.YtckadkobgmnoeaaDoor
open Go.RowKit

theorem wordsV_len : ∀ (ws : List ByteArray) (us : List (Nat × Int)), wordsV ws = some us → us.length = ws.length
  | [], us, h => by rw [wordsV] at h; cases h; rfl
  | w :: ws, us, h => by
    rw [wordsV] at h
    split at h
    · cases h
    · rw [Option.map_eq_some_iff] at h
      obtain ⟨us', h1, rfl⟩ := h
      rw [List.length_cons, wordsV_len ws us' h1, List.length_cons]
theorem rowV_len : ∀ (P : List ByteArray) (vs : List (Nat × Int)), rowV P = some vs → vs.length = 4 * P.length
  | [], vs, h => by rw [rowV] at h; cases h; rfl
  | p :: P, vs, h => by
    rw [rowV] at h
    split at h
    · rename_i h4
      split at h
      · cases h
      · rename_i us hus
        rw [Option.map_eq_some_iff] at h
        obtain ⟨vs', h1, rfl⟩ := h
        rw [List.length_append, wordsV_len _ _ hus, h4, rowV_len P vs' h1, List.length_cons]; omega
    · cases h
theorem rowR_len {l : ByteArray} {many : Nat} {vs : List Nat} (h : rowR l (many : Int) = (vs, 0)) : vs.length = 4 * many := by
  unfold rowR at h
  split at h
  · rename_i hm
    split at h
    · simp at h
    · rename_i us hus
      simp only [Prod.mk.injEq] at h
      obtain ⟨rfl, -⟩ := h
      rw [List.length_map, rowV_len _ _ hus]; omega
  · simp at h

def noB : ByteArray := ⟨#[]⟩
/-- The rows of a frame: n of them are left, the next is line k; rest: the lines from k on. -/
def rowsP (w : Int) : Nat → Nat → List ByteArray → List Nat → List Nat × Int × Int
  | 0, k, rest, acc => if rest = [noB] then (acc, 0, 0) else ([], (k : Int), 9)
  | n + 1, k, rest, acc => match rest with
    | [] => ([], (k : Int), 9)
    | [_] => ([], (k : Int), 9)
    | l :: m :: r => if (rowR l w).2 = 0 then rowsP w n (k + 1) (m :: r) (acc ++ (rowR l w).1) else ([], (k : Int), (rowR l w).2)
/-- What a text is: a frame's numbers, or the line and the error. -/
structure PR where
  x : Int
  y : Int
  w : Int
  h : Int
  vs : List Nat
  k : Int
  e : Int
def badP (k e : Int) : PR := ⟨0, 0, 0, 0, [], k, e⟩
def parseL : List ByteArray → PR
  | [] => badP 0 9
  | [_] => badP 0 9
  | l :: m :: r => match headL (spl spB l) with
    | none => badP 0 9
    | some (x, y, w, h) =>
      if checkRegion x y w h = 0 then (match rowsP w h.toNat 1 (m :: r) [] with | (vs, k, e) => if e = 0 then ⟨x, y, w, h, vs, 0, 0⟩ else badP k e)
      else badP 0 (checkRegion x y w h)
def parseR (t : ByteArray) : PR := if 1048576 < t.size then badP 0 4 else parseL (spl nlB t)

/-- The next line, what is left, and whether the line was ended. -/
def cutR (T : ByteArray) : ByteArray × ByteArray × Bool :=
  (⟨(Lib.cut T.data.toList nlB.data.toList).1.toArray⟩, ⟨(Lib.cut T.data.toList nlB.data.toList).2.1.toArray⟩, (Lib.cut T.data.toList nlB.data.toList).2.2)
theorem cutR_cases (T : ByteArray) : (spl nlB T = [T] ∧ cutR T = (T, noB, false)) ∨ ∃ l T', cutR T = (l, T', true) ∧ spl nlB T = l :: spl nlB T' ∧ l.size ≤ T.size ∧ T'.size ≤ T.size := by
  rcases Lib.indexB_cases T nlB with h | ⟨i, h, hi⟩
  · obtain ⟨h1, h2, h3⟩ := Lib.cutB_miss T nlB h
    refine .inl ⟨spl_miss h, ?_⟩
    unfold cutR
    rw [h1, h2, h3]; rfl
  · obtain ⟨h1, h2, h3⟩ := Lib.cutB_hit T nlB i h
    refine .inr ⟨_, _, ?_, spl_hit (by decide) h, extract_le _ _ _, extract_le _ _ _⟩
    unfold cutR
    rw [h1, h2, h3]
theorem spl_cons (sep s : ByteArray) (h1 : 1 ≤ sep.size) : ∃ m r, spl sep s = m :: r := by
  have := spl_pos (s := s) h1
  cases h : spl sep s with
  | nil => rw [h] at this; cases this
  | cons m r => exact ⟨m, r, rfl⟩
theorem spl_empty {T : ByteArray} : spl nlB T = [noB] ↔ T = noB := by
  constructor
  · intro h
    rcases cutR_cases T with ⟨h1, _⟩ | ⟨l, T', _, h1, _⟩
    · rw [h1] at h; simpa using h
    · obtain ⟨m, r, hm⟩ := spl_cons nlB T' (by decide)
      rw [h1, hm] at h; simp at h
  · rintro rfl
    exact spl_miss (by decide)

theorem drewN_cell (w : World) (n : Nat) (a : Addr) : (w.drewN n).cell? a = w.cell? a := rfl
set_option maxRecDepth 100000 in
set_option maxHeartbeats 4000000 in
/-- The closure: the next line. -/
theorem parse_next (gT gA : Nat) (T : ByteArray) (k : Int) (W : World) (E : Env W) (xT : Bx W gT 9 #[.string T]) (xA : Bx W gA 3 #[.int .i64 k]) (hne : gT < gA) (hT : T.size ≤ 1048576) (hk0 : -1 ≤ k) (hk : k ≤ 1048577) :
    Calls Tryd.prog 19 #[.pointer (some ⟨gT, 0, none⟩), .pointer (some ⟨gA, 0, none⟩)] W fun e w' => e = .returned (.tuple #[.string (cutR T).1, .bool (cutR T).2.2]) ∧ ∃ n, w' = ((W.drewN n).setCell ⟨gT, 0, none⟩ (.string (cutR T).2.1)).setCell ⟨gA, 0, none⟩ (.int .i64 (k + 1)) := by
  obtain ⟨m, hm⟩ := E.max
  obtain ⟨qT, fT, lT⟩ := xT.all
  obtain ⟨qA, fA, lA⟩ := xA.all
  obtain ⟨l, T', b, hc⟩ : ∃ l T' b, cutR T = (l, T', b) := ⟨_, _, _, rfl⟩
  rw [hc]
  have h1 : (⟨(Lib.cut T.data.toList nlB.data.toList).1.toArray⟩ : ByteArray) = l := congrArg (·.1) hc
  have h2 : (⟨(Lib.cut T.data.toList nlB.data.toList).2.1.toArray⟩ : ByteArray) = T' := congrArg (·.2.1) hc
  have h3 : (Lib.cut T.data.toList nlB.data.toList).2.2 = b := congrArg (·.2.2) hc
  have H1 := Lib.hid h1
  have H2 := Lib.hid h2
  have H3 := Lib.hid h3
  clear h1 h2 h3 hc
  go_enter Tryd.func19, Tryd.ntmps19
  go_wp2_with fail
  refine (Tryd.strings_Cut T nlB m _ (by omega) hm).mono ?_
  rw [H1.out, H2.out, H3.out]
  rintro e w1 ⟨rfl, n, rfl⟩
  clear H1 H2 H3 hm
  have xA2 : Bx ((W.drewN n).setCell ⟨gT, 0, none⟩ (.string T')) gA 3 #[.int .i64 k] := Bx.other (w := W.drewN n) xA _ _ (by dsimp only; omega)
  obtain ⟨qB, fB, lB⟩ := xA2.all
  go_wp2_with fail
  go_ret2
  exact ⟨rfl, n, rfl⟩
end Go.Proofs.YtckadkobgmnoeaaDoor
