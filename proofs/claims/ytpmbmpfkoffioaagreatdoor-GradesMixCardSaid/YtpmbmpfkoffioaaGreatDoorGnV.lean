/- Plain: own rows after the change; a point stored; what lies below. -/
import Derived.Test.YtpmbmpfkoffioaaGreatDoorGnT
namespace Go.Proofs.YtpmbmpfkoffioaaGreatDoor
open Go.RowKit Go.Lib

theorem CS.keep {B m : Nat} {g : Gd} {C : Array Value} {w w' : World} (h : CS B g m C w) (hb : Below w.heap.size w w') : CS B g m C w' :=
  ⟨fun q hq => (by obtain ⟨v, e1, e2⟩ := h.row q hq; exact ⟨v, e1, e2.keep hb⟩), h.apart⟩
theorem sc_below {pa : List Addr} {F : Nat → Value} {k B : Nat} {W a b : World} (h : Sc pa F k a b) (hp : ∀ ad ∈ pa, B ≤ ad.block) (hB : B ≤ a.heap.size) (hw : Below B W a) : Below B W b :=
  ⟨h.os.trans hw.os, h.tape.trans hw.tape, h.output.trans hw.output, Nat.le_trans hw.size h.size, fun q hq => (h.blk q (Nat.lt_of_lt_of_le hq hB) fun ad hm e => by have := hp ad hm; omega).trans (hw.block q hq)⟩
/-- The own rows hold the new singles. -/
theorem own_new {B : Nat} {v : Value} {w0 w1 : World} {xs ys : List Nat} (h : OwF B w0 v xs) (hl : ys.length = xs.length) (hs : ∀ (q : Nat) (cs : Array Value) (T : TypeId), Bx w0 q T cs → ∃ cs', Bx w1 q T cs' ∧ cs'.size = cs.size)
    (hc : ∀ b, v.ownBlock = some b → ∀ i, i < ys.length → w1.cell? ⟨b, i, none⟩ = some (.float .f32 (ys.getD i 0))) : OwF B w1 v ys := by
  refine ⟨by simp, ?_⟩
  rcases h.2 with ⟨h0, h1⟩ | ⟨g, cap, cur, e1, e2, e3, e4, e5, e6, e7⟩
  · exact .inl ⟨h0, by rw [hl]; exact h1⟩
  · obtain ⟨cs', k1, k2⟩ := hs g cur _ e3
    refine .inr ⟨g, cap, cs', by rw [hl]; exact e1, e2, k1, by rw [hl]; exact e4, e5, by rw [k2]; exact e6, ?_⟩
    apply List.ext_getElem?
    intro i
    rw [List.getElem?_take, Nat.mul_one]
    by_cases hi : i < ys.length
    · rw [if_pos hi, Array.getElem?_toList, ← k1.all.1, hc g (by rw [e1]; rfl) i hi, List.getElem?_map, List.getElem?_eq_getElem hi, List.getD_eq_getElem?_getD, List.getElem?_eq_getElem hi]
      rfl
    · rw [if_neg hi, List.getElem?_eq_none (by simp; omega)]
theorem unread_cs {B : Nat} {a g' : Gd} {C D : Array Value} {w0 w1 : World} {p : Nat} {F : Nat → Value} (hC : CS B a 8 C w0) (hx : Bx w0 p 37 C) (hG : GdAt w0 C a)
    (hs : Sc (ptrsG p C a) F (ptrsG p C a).length w0 w1) (hF : ∀ i, i < (ptrsG p C a).length → F i = .float .f32 ((valsG g').getD i 0))
    (h1 : g'.whe.length = 9) (h2 : g'.lst.length = 10) (h3 : g'.mix.length = 12) (hcl : ∀ q, q < 8 → (cvV g' q).length = (cvV a q).length) (hD : Bx w1 p 37 D) : CS B g' 8 D w1 := by
  have hbp : ∀ q, q < 8 → cvV a q ≠ [] → bkq C q ≠ p := fun q hq hn => by
    obtain ⟨_, _, ⟨cur, hc⟩, _⟩ := hC.bk hq hn
    exact hc.ne hx (by decide)
  have hfl : ((List.range 8).flatMap fun q => cellsP (bkq C q) 0 (cvV a q).length).length = ((List.range 8).flatMap (cvV g')).length := flat_len 8 fun q hq => by rw [cellsP_len, hcl q hq]
  have hrl : (ptrsG p C a).length = (valsG g').length := by
    rw [hC.ptrs p]
    unfold valsG
    simp only [List.length_append, cellsP_len, List.length_take, h1, h2, h3, List.length_cons, List.length_nil]
    omega
  have hR : Rdz w1 (ptrsG p C a) (valsG g') := ⟨hrl, fun i ad hi => by
    have hlt := (List.getElem?_eq_some_iff.1 hi).1
    rw [hs.lo i hlt ad hi, hF i hlt]⟩
  rw [hC.ptrs p] at hR
  unfold valsG at hR
  obtain ⟨r1, _⟩ := hR.split (by simp only [List.length_append, cellsP_len, List.length_take, h1, h2, h3]; omega)
  obtain ⟨_, r4⟩ := r1.split (by simp only [List.length_append, cellsP_len, List.length_take, h1, h2, h3]; omega)
  have r4' := Rdz.unflat 8 (fun q hq => by rw [cellsP_len, hcl q hq]) r4
  have hun : ∀ q, q < 8 → D[cvC q]? = C[cvC q]? := fun q hq => by
    rw [← hD.all.1, ← hx.all.1]
    exact hs.oth _ hx.lt (not_mem_ptrs hC hbp (by unfold cvC; omega))
  constructor
  · intro q hq
    obtain ⟨v, e1, e2⟩ := hC.row q hq
    refine ⟨v, by rw [hun q hq]; exact e1, own_new e2 (hcl q hq) hs.shp fun b hb i hi => ?_⟩
    have hbq : bkq C q = b := by unfold bkq; rw [e1, Option.getD_some, hb]; rfl
    have := (r4' q hq).cell (i := i) (by rw [← hcl q hq]; exact hi)
    rw [hbq, Nat.zero_add] at this
    exact this
  · intro q q' v v' b hq hq' hne hv hv'
    rw [hun q hq] at hv
    rw [hun q' hq'] at hv'
    exact hC.apart q q' v v' b hq hq' hne hv hv'
/-- A point stored in the block of a grade. -/
theorem put_pt {B p j : Nat} {w : World} {D : Array Value} {g : Gd} (h : GdAt w D g) (c : CS B g 8 D w) (hx : Bx w p 37 D) (hj : j < 3) (n : Int) :
    GdAt (w.setCell ⟨p, 46 + j, none⟩ (.int .i64 n)) (D.setIfInBounds (46 + j) (.int .i64 n)) { g with pts := g.pts.set j n } ∧ CS B { g with pts := g.pts.set j n } 8 (D.setIfInBounds (46 + j) (.int .i64 n)) (w.setCell ⟨p, 46 + j, none⟩ (.int .i64 n)) := by
  have hsz := h.size
  have k : ∀ i, i ≠ 46 + j → (D.setIfInBounds (46 + j) (.int .i64 n))[i]? = D[i]? := fun i hi => Array.getElem?_setIfInBounds_ne (Ne.symm hi)
  have hC : CS B { g with pts := g.pts.set j n } 8 (D.setIfInBounds (46 + j) (.int .i64 n)) (w.setCell ⟨p, 46 + j, none⟩ (.int .i64 n)) := by
    constructor
    · intro q hq
      obtain ⟨v, e1, e2⟩ := c.row q hq
      exact ⟨v, by rw [k _ (by unfold cvC; omega)]; exact e1, e2.put hx (by decide)⟩
    · intro q q' v v' b hq hq' hne hv hv'
      rw [k _ (by unfold cvC; omega)] at hv hv'
      exact c.apart q q' v v' b hq hq' hne hv hv'
  refine ⟨⟨by simp [hsz], all_set h.one (by simp [Value.oneCell']), by rw [k 0 (by omega)]; exact h.kind, ⟨h.whe.1, fun i hi => by rw [k _ (by omega)]; exact h.whe.2 i hi⟩, ⟨h.lst.1, fun i hi => by rw [k _ (by omega)]; exact h.lst.2 i hi⟩, ⟨h.cvs.1, fun i cc hc => ?_⟩, ⟨h.mix.1, fun i hi => by rw [k _ (by omega)]; exact h.mix.2 i hi⟩, by rw [k _ (by omega)]; exact h.piv, by rw [k _ (by omega)]; exact h.amt, ⟨by simp [h.pts.1], fun i hi => ?_⟩⟩, hC⟩
  · have hi : i < 4 := by have := (List.getElem?_eq_some_iff.1 hc).1; rw [h.cvs.1] at this; exact this
    obtain ⟨vx, a1, a2⟩ := hC.row (2 * i) (by omega)
    obtain ⟨vy, b1, b2⟩ := hC.row (2 * i + 1) (by omega)
    have hcv := cvV_x (g := { g with pts := g.pts.set j n }) hc
    rw [hcv.1] at a2
    rw [hcv.2] at b2
    refine ⟨by rw [k _ (by omega)]; exact (h.cvs.2 i cc hc).1, ⟨vx, ?_, a2.sl⟩, vy, ?_, b2.sl⟩
    · rw [← a1]; congr 1; unfold cvC; omega
    · rw [← b1]; congr 1; unfold cvC; omega
  · by_cases hij : i = j
    · subst hij
      rw [Array.getElem?_setIfInBounds_self_of_lt (by omega), List.getD_eq_getElem?_getD, List.getElem?_set_self (by rw [h.pts.1]; omega)]
      rfl
    · rw [k _ (by omega), List.getD_eq_getElem?_getD, List.getElem?_set_ne (Ne.symm hij), ← List.getD_eq_getElem?_getD]
      exact h.pts.2 i hi
/-- The points, the first j mixed. -/
def ptsTo (a b : Gd) (t j : Nat) : List Int := (List.zipWith (fun n m => ptMix n m t) a.pts b.pts).take j ++ a.pts.drop j
theorem ptsTo_zero (a b : Gd) (t : Nat) : ptsTo a b t 0 = a.pts := by simp [ptsTo]
theorem ptsTo_succ {a b : Gd} {t j : Nat} (ha : a.pts.length = 3) (hb : b.pts.length = 3) (hj : j < 3) : ptsTo a b t (j + 1) = (ptsTo a b t j).set j (ptMix (a.pts.getD j 0) (b.pts.getD j 0) t) := by
  have hz : (List.zipWith (fun n m => ptMix n m t) a.pts b.pts).length = 3 := by simp [ha, hb]
  have hd : a.pts.drop j = a.pts.getD j 0 :: a.pts.drop (j + 1) := by
    rw [List.drop_eq_getElem_cons (by omega), List.getD_eq_getElem?_getD, List.getElem?_eq_getElem (by omega)]; rfl
  have hg : (List.zipWith (fun n m => ptMix n m t) a.pts b.pts)[j]? = some (ptMix (a.pts.getD j 0) (b.pts.getD j 0) t) := by
    rw [List.getElem?_zipWith, List.getD_eq_getElem?_getD, List.getD_eq_getElem?_getD, List.getElem?_eq_getElem (show j < a.pts.length by omega), List.getElem?_eq_getElem (show j < b.pts.length by omega)]
    rfl
  unfold ptsTo
  rw [List.take_add_one, hg, hd, List.set_append_right _ _ (by simp [hz]; omega)]
  simp [hz, Nat.min_eq_left (show j ≤ 3 by omega)]
theorem ptsTo_three {a b : Gd} {t : Nat} (ha : a.pts.length = 3) (hb : b.pts.length = 3) : ptsTo a b t 3 = (mixG a b t).pts := by
  unfold ptsTo
  rw [List.take_of_length_le (by simp [ha, hb]), List.drop_of_length_le (by omega), List.append_nil]
  rfl
end Go.Proofs.YtpmbmpfkoffioaaGreatDoor
