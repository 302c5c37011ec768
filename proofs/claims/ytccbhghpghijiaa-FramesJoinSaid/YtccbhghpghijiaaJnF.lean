/- A slice of frames; what Join gives; the state of a joined frame. -/
import Derived.Test.YtccbhghpghijiaaJnP
import Derived.Test.YtccbhghpghijiaaCopy
namespace Go.Proofs.Ytccbhghpghijiaa
open Go.RowKit

def Fr.pv (f : Fr) : Value := .slice f.a f.V.length f.c
def FrAt (w : World) (b i : Nat) (f : Fr) : Prop :=
  w.cell? ⟨b, i, none⟩ = some (.int .i64 f.x) ∧ w.cell? ⟨b, i + 1, none⟩ = some (.int .i64 f.y) ∧ w.cell? ⟨b, i + 2, none⟩ = some (.int .i64 f.w) ∧ w.cell? ⟨b, i + 3, none⟩ = some (.int .i64 f.h) ∧ w.cell? ⟨b, i + 4, none⟩ = some f.pv
theorem FrAt.keep {w w' : World} {B b i : Nat} {e : Fr} (h : FrAt w b i e) (hb : Below B w w') (hlt : b < B) : FrAt w' b i e := by
  obtain ⟨q0, q1, q2, q3, q4⟩ := h
  exact ⟨by rw [hb.cell (p := ⟨b, _, none⟩) hlt]; exact q0, by rw [hb.cell (p := ⟨b, _, none⟩) hlt]; exact q1, by rw [hb.cell (p := ⟨b, _, none⟩) hlt]; exact q2, by rw [hb.cell (p := ⟨b, _, none⟩) hlt]; exact q3, by rw [hb.cell (p := ⟨b, _, none⟩) hlt]; exact q4⟩
/-- What a slice of frames asks of each frame: its singles are there. -/
def FrOk (w : World) (f : Fr) : Prop := Sl w f.pv f.V ∧ f.V.length ≤ f.c ∧ f.V.length ≤ maxLen
theorem FrOk.keep {w w' : World} {f : Fr} (h : FrOk w f) (hb : Below w.heap.size w w') : FrOk w' f := ⟨h.1.keep hb, h.2⟩
/-- v reads as the frames L. -/
def SlF (w : World) (v : Value) (L : List Fr) : Prop :=
  ∃ a c, v = .slice a L.length c ∧ L.length ≤ maxLen ∧ (L = [] ∨ ∃ b o, a = some ⟨b, o, none⟩ ∧ b < w.heap.size ∧ ∀ k, k < L.length → FrAt w b (o + k * 5) (L.getD k default)) ∧ ∀ k, k < L.length → FrOk w (L.getD k default)
theorem SlF.keep {w w' : World} {v : Value} {L : List Fr} (h : SlF w v L) (hb : Below w.heap.size w w') : SlF w' v L := by
  obtain ⟨a, c, h1, h2, h3, h4⟩ := h
  refine ⟨a, c, h1, h2, ?_, fun k hk => (h4 k hk).keep hb⟩
  rcases h3 with h3 | ⟨b, o, h5, h6, h7⟩
  · exact .inl h3
  · exact .inr ⟨b, o, h5, Nat.lt_of_lt_of_le h6 hb.size, fun k hk => (h7 k hk).keep hb h6⟩
def zeroFr : Value := .agg #[.int .i64 0, .int .i64 0, .int .i64 0, .int .i64 0, .slice none 0 0]
/-- What Join gives. -/
def JoinR (x y w h : Int) (L : List Fr) (W : World) (e : Ending) (w' : World) : Prop :=
  ((joinErr x y w h L ≠ 0 ∧ e = .returned (.tuple #[zeroFr, .int .i64 (joinErr x y w h L)])) ∨
    (joinErr x y w h L = 0 ∧ ∃ g c, e = .returned (.tuple #[.agg #[.int .i64 x, .int .i64 y, .int .i64 w, .int .i64 h, .slice (some ⟨g, 0, none⟩) (4 * (w.toNat * h.toNat)) c], .int .i64 0]) ∧ 4 * (w.toNat * h.toNat) ≤ c ∧ W.heap.size ≤ g ∧
      Rd w' g 0 (madeL (outP x y w.toNat L L.length) (4 * (w.toNat * h.toNat))))) ∧ Below W.heap.size W w'
theorem JoinR.bad {x y w h er : Int} {L : List Fr} {W w' : World} (he : joinErr x y w h L = er) (h0 : er ≠ 0) (hb : Below W.heap.size W w') : JoinR x y w h L W (.returned (.tuple #[.agg #[.int .i64 0, .int .i64 0, .int .i64 0, .int .i64 0, .slice none 0 0], .int .i64 er])) w' :=
  ⟨.inl ⟨by rw [he]; exact h0, by rw [he]; rfl⟩, hb⟩
theorem infoBo : (Try.prog.info? 4).map (fun i => (i.zero, i.size, i.bytes)) = some (some (.bool false), 1, 1) := by kernel_rfl
/-- make([]bool, n). -/
theorem run_makeB (w : World) (N : Nat) (hN : N ≤ 1000000) :
    (Instr.makeSlice 45 (.int .i64 (N : Int)) (.int .i64 (N : Int))).run Try.prog w = .ok (.slice (some ⟨w.heap.size, 0, none⟩) N N) (w.alloc (.cells (madeCells #[.bool false] N) 4)) := by
  obtain ⟨i0, hi, hz0, hz1, hz2⟩ := info_parts infoBo
  have := run_make (P := Try.prog) w 45 4 i0 (.bool false) Try.underlying45 hi hz0 .i64 .i64 N N (by omega) (Int.le_refl _) (by rw [hz2]; omega) (by omega)
  rw [this, hz1]
  simp [Value.cells]
theorem bool_made (N k : Nat) (hk : k < N) : (madeCells #[.bool false] N)[k]? = some (.bool false) := by
  rw [← Array.getElem?_toList, toList_madeCells_one]
  simp [hk]
/-- Which places are full. -/
def FullS (cs : Array Value) (M : Nat) (F : Nat → Bool) : Prop := ∀ k, k < M → cs[k]? = some (.bool (F k))
theorem FullS.set {cs : Array Value} {M k0 : Nat} {F G : Nat → Bool} (h : FullS cs M F) (hk : k0 < M) (hG : ∀ k, k < M → G k = if k = k0 then true else F k) : FullS (cs.setIfInBounds k0 (.bool true)) M G := by
  intro k hkM
  rw [hG k hkM]
  by_cases he : k = k0
  · subst he
    rw [if_pos rfl, Array.getElem?_setIfInBounds_self_of_lt (Array.getElem?_eq_some_iff.1 (h k hkM)).1]
  · rw [if_neg he, Array.getElem?_setIfInBounds_ne (by omega)]
    exact h k hkM
theorem FullS.congr {cs : Array Value} {M : Nat} {F G : Nat → Bool} (h : FullS cs M F) (hG : ∀ k, k < M → G k = F k) : FullS cs M G := fun k hk => by rw [hG k hk]; exact h k hk

/-- frame.Join's own memory: the region, the result, the joined frame, its singles, the full places. -/
def JSt (W : World) (x y w h : Int) (p7 g gb N : Nat) (cs : Array Value) (out : List Nat) (wr : World) : Prop :=
  Bx wr W.heap.size 23 #[.int .i64 x, .int .i64 y, .int .i64 w, .int .i64 h] ∧ Bx wr (W.heap.size + 1) 26 #[.int .i64 0, .int .i64 0, .int .i64 0, .int .i64 0, .slice none 0 0] ∧
  Bx wr p7 26 #[.int .i64 x, .int .i64 y, .int .i64 w, .int .i64 h, .slice (some ⟨g, 0, none⟩) N N] ∧ Row wr g N out ∧ Bx wr gb 4 cs ∧ Below W.heap.size W wr
theorem JSt.keep {W wr w' : World} {x y w h : Int} {p7 g gb N : Nat} {cs : Array Value} {out : List Nat} (s : JSt W x y w h p7 g gb N cs out wr) (hb : Below wr.heap.size wr w') : JSt W x y w h p7 g gb N cs out w' := by
  obtain ⟨h1, h2, h3, h4, h5, h6⟩ := s
  exact ⟨h1.keep hb, h2.keep hb, h3.keep hb, h4.keep hb, h5.keep hb, bcall h6 hb⟩
/-- The pieces lie apart. -/
structure JAp (B p7 g gb : Nat) : Prop where
  a : B + 1 < p7
  b : B + 1 < g
  c : p7 ≠ g
  d : p7 < gb
  e : g < gb
theorem joinErr_region {x y w h : Int} {L : List Fr} (h0 : checkRegion x y w h ≠ 0) : joinErr x y w h L = checkRegion x y w h := by unfold joinErr; rw [if_pos h0]
theorem joinErr_at {x y w h : Int} {L : List Fr} {m : Nat} {e : Int} (hr : checkRegion x y w h = 0) (hm : m < L.length) (hz : joinTo x y w h L m = 0) (he : e ≠ 0) (ha : joinAt x y w h L m = e) : joinErr x y w h L = e := by
  have h1 : joinTo x y w h L (m + 1) = e := by rw [joinTo, if_neg (by rw [hz]; simp)]; exact ha
  have h2 := joinTo_stay he h1 L.length (by omega)
  unfold joinErr
  rw [if_neg (by rw [hr]; simp), if_pos (by rw [h2]; exact he)]
  exact h2
theorem joinErr_end {x y w h : Int} {L : List Fr} (hr : checkRegion x y w h = 0) (hz : joinTo x y w h L L.length = 0) : joinErr x y w h L = if (cntF L L.length : Int) < w * h then 10 else 0 := by
  unfold joinErr
  rw [if_neg (by rw [hr]; simp), if_neg (by rw [hz]; simp)]
theorem inB_true {ax ay aw ah bx b_y bw bh : Int} (h : inB ax ay aw ah bx b_y bw bh = true) : bx ≤ ax ∧ b_y ≤ ay ∧ ax + aw ≤ bx + bw ∧ ay + ah ≤ b_y + bh := by
  unfold inB at h
  simp only [Bool.and_eq_true, decide_eq_true_eq] at h
  exact ⟨h.1.1.1, h.1.1.2, h.1.2, h.2⟩
theorem Fr.right {f : Fr} (h : f.err = 0) : checkRegion f.x f.y f.w f.h = 0 ∧ (f.V.length : Int) = 4 * f.w * f.h := by
  unfold Fr.err checkFrame at h
  split at h
  · rename_i h0
    split at h
    · rename_i h1; exact ⟨h0, h1⟩
    · cases h
  · rename_i h0; exact absurd h h0
/-- A frame within a region: where they meet. -/
theorem meet_in {x y fx fy : Int} {w h fw fh i0 j0 : Nat} (hx : fx = x + i0) (hy : fy = y + j0) (hw : i0 + fw ≤ w) (hh : j0 + fh ≤ h) (hw1 : 0 < fw) (hh1 : 0 < fh) :
    Meet x y w h fx fy fw fh i0 j0 0 0 fw fh ∧ commonOf x y w h fx fy fw fh = ((x + i0, y + j0, (fw : Int), (fh : Int)), true) := by
  refine ⟨⟨by omega, by omega, hw, hh, by omega, by omega, hw1, hh1, .inr rfl, .inr rfl, .inr (by omega), .inr (by omega)⟩, ?_⟩
  have m1 := imax_spec x fx
  have m2 := imax_spec y fy
  have m3 := imin_spec (x + w) (fx + fw)
  have m4 := imin_spec (y + h) (fy + fh)
  unfold commonOf
  rw [if_neg (by omega)]
  congr
  all_goals omega
/-- Two blocks made, in whichever order: a row of singles, and the frame that has it. -/
theorem row_new {W w wx : World} {T : TypeId} {N k : Nat} {cf : Nat → Array Value} {s7 : Value} (B : Below W.heap.size W w) (hk : k ≤ w.heap.size) (P : World → Prop) (hP : ∀ w', Below w.heap.size w w' → P w')
    (h : (s7 = .pointer (some ⟨w.heap.size + 1, 0, none⟩) ∧ wx = ((w.alloc (.cells (madeCells #[.float .f32 0] N) 43)).alloc (.cells (cf w.heap.size) T)).drew) ∨ (s7 = .pointer (some ⟨w.heap.size, 0, none⟩) ∧ wx = ((w.alloc (.cells (cf (w.heap.size + 1)) T)).alloc (.cells (madeCells #[.float .f32 0] N) 43)).drew)) :
    ∃ p7 g, s7 = .pointer (some ⟨p7, 0, none⟩) ∧ p7 ≠ g ∧ k ≤ p7 ∧ k ≤ g ∧ Bx wx p7 T (cf g) ∧ Row wx g N (List.replicate N 0) ∧ P wx ∧ Below W.heap.size W wx := by
  have hd : ∀ (w : World), Below w.heap.size w w.drew := fun w => below_drewN (Below.refl _ w) 1
  rcases h with ⟨rfl, rfl⟩ | ⟨rfl, rfl⟩
  · refine ⟨_, w.heap.size, rfl, by omega, by omega, by omega, (Bx.at _ (by simp)).keep (hd _), ((Row.made w N).keep ((Below.refl _ _).alloc (Nat.le_refl _) _)).keep (hd _), hP _ ?_, bcall (bnew (bnew B)) (hd _)⟩
    exact bcall (bnew (bnew (Below.refl _ _))) (hd _)
  · refine ⟨_, w.heap.size + 1, rfl, by omega, by omega, by omega, ((Bx.new _ _ _).alloc _).keep (hd _), ?_, hP _ ?_, bcall (bnew (bnew B)) (hd _)⟩
    · have hr := Row.made (w.alloc (.cells (cf (w.heap.size + 1)) T)) N
      rw [show (w.alloc (.cells (cf (w.heap.size + 1)) T)).heap.size = w.heap.size + 1 by simp] at hr
      exact hr.keep (hd _)
    · exact bcall (bnew (bnew (Below.refl _ _))) (hd _)
theorem JoinR.good {x y : Int} {rw rh g c N : Nat} {L : List Fr} {W w' : World} (he : joinErr x y rw rh L = 0) (hN : N = 4 * (rw * rh)) (hc : N ≤ c) (hg : W.heap.size ≤ g) (hrd : Rd w' g 0 (madeL (outP x y rw L L.length) N)) (hb : Below W.heap.size W w') :
    JoinR x y rw rh L W (.returned (.tuple #[.agg #[.int .i64 x, .int .i64 y, .int .i64 (rw : Int), .int .i64 (rh : Int), .slice (some ⟨g, 0, none⟩) N c], .int .i64 0])) w' := by
  subst hN
  exact ⟨.inr ⟨he, g, c, by simp, by simpa using hc, hg, by simpa using hrd⟩, hb⟩
theorem count_set {M k0 : Nat} {F G : Nat → Bool} (hk : k0 < M) (h0 : F k0 = false) (hG : ∀ k, k < M → G k = if k = k0 then true else F k) : (List.range M).countP G = (List.range M).countP F + 1 := by
  induction M with
  | zero => omega
  | succ M ih =>
    rw [List.range_succ, List.countP_append, List.countP_append]
    have hl := hG M (by omega)
    by_cases hm : k0 = M
    · subst hm
      rw [if_pos rfl] at hl
      have e : (List.range k0).countP G = (List.range k0).countP F := List.countP_congr fun k hk => by
        rw [List.mem_range] at hk
        rw [hG k (by omega), if_neg (by omega)]
      rw [e]
      simp [hl, h0]
    · rw [if_neg (by omega)] at hl
      rw [ih (by omega) (fun k hk => hG k (by omega))]
      simp only [List.countP_cons, List.countP_nil, hl]
      omega
theorem count_le (M : Nat) (F : Nat → Bool) : (List.range M).countP F ≤ M := by
  have := List.countP_le_length (p := F) (l := List.range M)
  rwa [List.length_range] at this
theorem count_congr {M : Nat} {F G : Nat → Bool} (h : ∀ k, k < M → G k = F k) : (List.range M).countP G = (List.range M).countP F := List.countP_congr fun k hk => by
  rw [List.mem_range] at hk
  rw [h k hk]
theorem place_lt {j i w h : Nat} (hj : j < h) (hi : i < w) : j * w + i < w * h := by
  have : (j + 1) * w ≤ h * w := Nat.mul_le_mul_right w hj
  rw [Nat.add_mul, Nat.one_mul] at this
  rw [Nat.mul_comm w h]
  omega
theorem place_here {x y : Int} {w i0 j0 j i : Nat} {f : Fr} (hx : f.x = x + i0) (hy : f.y = y + j0) (hi : i0 + i < w) : pOf x y w ((j0 + j) * w + (i0 + i)) = ptAt f j i := by
  rw [(pOf_iff hi).2 rfl]
  unfold ptAt
  rw [hx, hy]
  ext <;> simp <;> omega
theorem place_step {x y : Int} {L : List Fr} {m w i0 j0 j i fw fh : Nat} (hw : (L.getD m default).w = fw) (hh : (L.getD m default).h = fh) (hx : (L.getD m default).x = x + i0) (hy : (L.getD m default).y = y + j0) (hi : i < fw) (hj : j < fh) (hi0 : i0 + fw ≤ w) (k : Nat) :
    (srcAt L m j (i + 1) (pOf x y w k)).isSome = if k = (j0 + j) * w + (i0 + i) then true else (srcAt L m j i (pOf x y w k)).isSome := by
  rw [srcAt_step L m j i fw fh _ hw hh hi hj]
  have e := pOf_iff (x := x) (y := y) (w := w) (k := k) (j := j0 + j) (i := i0 + i) (by omega)
  by_cases hk : k = (j0 + j) * w + (i0 + i)
  · rw [if_pos hk, if_pos]
    · cases srcAt L m j i (pOf x y w k) <;> rfl
    · rw [hk, place_here hx hy (by omega)]
  · rw [if_neg hk, if_neg, Option.or_none]
    intro he
    apply hk
    apply e.1
    rw [← he]
    unfold ptAt
    rw [hx, hy]
    ext <;> simp <;> omega
theorem cntF_succ (L : List Fr) (m fw fh : Nat) (hw : (L.getD m default).w = fw) (hh : (L.getD m default).h = fh) : cntF L (m + 1) = cntF L m + fh * fw := by
  rw [cntF, hw, hh]
  congr 1
  rw [Nat.mul_comm]
  exact_mod_cast Int.toNat_natCast (fw * fh)
theorem JSt.fill {W wr : World} {x y w h : Int} {p7 g gb N k : Nat} {cs : Array Value} {out : List Nat} {u : Value} (s : JSt W x y w h p7 g gb N cs out wr) (ap : JAp W.heap.size p7 g gb) : JSt W x y w h p7 g gb N (cs.setIfInBounds k u) out (wr.setCell ⟨gb, k, none⟩ u) := by
  obtain ⟨h1, h2, h3, h4, h5, h6⟩ := s
  obtain ⟨a, b, c, d, e⟩ := ap
  exact ⟨Bx.other h1 _ _ (by dsimp only; omega), Bx.other h2 _ _ (by dsimp only; omega), Bx.other h3 _ _ (by dsimp only; omega), Row.other h4 _ _ (by show gb ≠ g; omega), Bx.set h5 k _, bput (by omega) h6⟩
theorem JSt.copy {W wr w' : World} {x y w h : Int} {p7 g gb N : Nat} {cs : Array Value} {out out' : List Nat} (s : JSt W x y w h p7 g gb N cs out wr) (ap : JAp W.heap.size p7 g gb) (hr : Row w' g N out') (ho : Off g wr.heap.size wr w') : JSt W x y w h p7 g gb N cs out' w' := by
  obtain ⟨h1, h2, h3, h4, h5, h6⟩ := s
  obtain ⟨a, b, c, d, e⟩ := ap
  exact ⟨ho.bx h1 h1.lt (by omega), ho.bx h2 h2.lt (by omega), ho.bx h3 h3.lt (by omega), hr, ho.bx h5 h5.lt (by omega), h6.trans (ho.below (by omega) h6.size)⟩
end Go.Proofs.Ytccbhghpghijiaa
