/- dyelaw1.FramesParse: every text. -/
import Derived.Test.YtdcacijacmjjoaaDoorFpG
import Derived.Test.YtdcacijacmjjoaaDoorFpH
import Derived.Test.YtdcacijacmjjoaaDoorSame
namespace Go.Proofs.YtdcacijacmjjoaaDoor
open Go.RowKit

theorem rowsP_len {wn : Nat} : ∀ (n k : Nat) (rest : List ByteArray) (acc vs : List Nat) (k' : Int), rowsP (wn : Int) n k rest acc = (vs, k', 0) → vs.length = acc.length + 4 * wn * n
  | 0, k, rest, acc, vs, k', h => by
    simp only [rowsP] at h
    split at h
    · simp only [Prod.mk.injEq] at h; rw [h.1]; simp
    · simp at h
  | n + 1, k, [], acc, vs, k', h => by simp [rowsP] at h
  | n + 1, k, [_], acc, vs, k', h => by simp [rowsP] at h
  | n + 1, k, l :: m :: r, acc, vs, k', h => by
    simp only [rowsP] at h
    split at h
    · rename_i h0
      have h1 := rowsP_len n _ _ _ _ _ h
      have h2 := rowR_len (l := l) (many := wn) (vs := (rowR l wn).1) (by rw [← h0])
      rw [h1, List.length_append, h2]
      have := Nat.mul_succ (4 * wn) n
      rw [Nat.succ_eq_add_one] at this
      omega
    · rename_i h0
      simp only [Prod.mk.injEq] at h
      exact absurd h.2.2 h0
/-- A text that is no frame gives nothing of one; a frame has its numbers. -/
theorem parseR_shape (t : ByteArray) : (∃ k e, e ≠ 0 ∧ parseR t = badP k e) ∨ ∃ (x y w h : Int) (vs : List Nat), parseR t = ⟨x, y, w, h, vs, 0, 0⟩ ∧ 1 ≤ vs.length ∧ vs.length ≤ 262144 := by
  unfold parseR
  split
  · exact .inl ⟨0, 4, by decide, rfl⟩
  · cases hs : spl nlB t with
    | nil => exact .inl ⟨0, 9, by decide, rfl⟩
    | cons l r =>
      cases r with
      | nil => exact .inl ⟨0, 9, by decide, rfl⟩
      | cons m r =>
        simp only [parseL]
        cases hh : headL (spl spB l) with
        | none => exact .inl ⟨0, 9, by decide, rfl⟩
        | some q =>
          obtain ⟨x, y, w, h⟩ := q
          simp only
          by_cases hc : checkRegion x y w h = 0
          · rw [if_pos hc]
            obtain ⟨h1, h2, h3, h4⟩ := check_ok hc
            obtain ⟨wn, rfl⟩ : ∃ wn : Nat, w = (wn : Int) := ⟨w.toNat, by omega⟩
            obtain ⟨hn, rfl⟩ : ∃ hn : Nat, h = (hn : Int) := ⟨h.toNat, by omega⟩
            obtain ⟨vs, k, e, hr⟩ : ∃ vs k e, rowsP (wn : Int) hn 1 (m :: r) [] = (vs, k, e) := ⟨_, _, _, rfl⟩
            rw [Int.toNat_natCast, hr]
            simp only
            by_cases he : e = 0
            · subst he
              rw [if_pos rfl]
              have hl := rowsP_len _ _ _ _ _ _ hr
              rw [List.length_nil, Nat.zero_add] at hl
              refine .inr ⟨_, _, _, _, _, rfl, ?_, ?_⟩
              · have : 4 * 1 * 1 ≤ 4 * wn * hn := Nat.mul_le_mul (by omega) (by omega)
                show 1 ≤ vs.length; omega
              · have : 4 * wn * hn ≤ 4 * 256 * 256 := Nat.mul_le_mul (by omega) (by omega)
                show vs.length ≤ _; omega
            · rw [if_neg he]
              exact .inl ⟨k, e, he, rfl⟩
          · rw [if_neg hc]
            exact .inl ⟨0, _, hc, rfl⟩
theorem OutV.rd {B : Nat} {w : World} {v : Value} {xs : List Nat} (h : OutV B w 35 v (xs.map fun b => .float .f32 b)) (hx : xs ≠ []) : ∃ g c, v = .slice (some ⟨g, 0, none⟩) xs.length c ∧ Rd w g 0 xs := by
  rcases h.cells with ⟨h0, _⟩ | ⟨g, c, rfl, _, h2, hc⟩
  · exact absurd (List.map_eq_nil_iff.1 h0) hx
  · refine ⟨g, c, by rw [List.length_map], h2, fun k hk => ?_⟩
    rw [Nat.zero_add]
    refine hc k trivial _ ?_
    rw [List.getElem?_map, List.getElem?_eq_getElem hk, List.getD_eq_getElem?_getD, List.getElem?_eq_getElem hk]; rfl

set_option maxRecDepth 100000 in
set_option maxHeartbeats 8000000 in
theorem alike_bad (e : Int) (a : Option Addr) (c : Nat) (x2 y2 w2 h2 : Int) (v2 : Value) (W : World) (he : e ≠ 0) (hv : ∃ a n c, v2 = .slice a n c) :
    Calls Tryd.prog 7 #[.agg #[.int .i64 0, .int .i64 0, .int .i64 0, .int .i64 0, .slice a 0 c], .int .i64 e, .agg #[.int .i64 x2, .int .i64 y2, .int .i64 w2, .int .i64 h2, v2], .int .i64 e] W fun en w' => en = .returned (.bool true) ∧ Below W.heap.size W w' := by
  obtain ⟨a2, n2, c2, rfl⟩ := hv
  have hne : (e != 0) = true := bne_iff_ne.2 he
  go_enter Tryd.func7, Tryd.ntmps7
  go_upto_region 1 with fail
  refine name_world ?_
  intro w1 hw1
  obtain ⟨g, hg⟩ : ∃ g, g = W.heap.size := ⟨_, rfl⟩
  have x1 : Bx w1 g 27 #[.int .i64 0, .int .i64 0, .int .i64 0, .int .i64 0, .slice a 0 c] := by rw [hw1, hg]; exact Bx.alloc (Bx.new _ _ _) _
  have B1 : Below W.heap.size W w1 := by rw [hw1]; exact bnew (bnew (Below.refl _ _))
  rw [← hg]
  clear hw1 hg
  obtain ⟨q1, f1, l1⟩ := x1.all
  go_wp2_with fail
  go_ret
  exact ⟨rfl, B1⟩

set_option maxRecDepth 100000 in
set_option maxHeartbeats 8000000 in
theorem alike_good (x y w h : Int) (b1 c1 b2 c2 n : Nat) (xs : List Nat) (W : World) (hn : n ≤ 1000000) (hxs : xs.length = n) (h1 : Rd W b1 0 xs) (h2 : Rd W b2 0 xs) :
    Calls Tryd.prog 7 #[.agg #[.int .i64 x, .int .i64 y, .int .i64 w, .int .i64 h, .slice (some ⟨b1, 0, none⟩) n c1], .int .i64 0, .agg #[.int .i64 x, .int .i64 y, .int .i64 w, .int .i64 h, .slice (some ⟨b2, 0, none⟩) n c2], .int .i64 0] W fun en w' => en = .returned (.bool true) ∧ Below W.heap.size W w' := by
  have Hxs := Lib.hid hxs
  clear hxs
  go_enter Tryd.func7, Tryd.ntmps7
  go_upto_region 1 with fail
  refine name_world ?_
  intro w1 hw1
  obtain ⟨g, hg⟩ : ∃ g, g = W.heap.size := ⟨_, rfl⟩
  obtain ⟨g2, hg2⟩ : ∃ g, g = W.heap.size + 1 := ⟨_, rfl⟩
  have x1 : Bx w1 g 27 #[.int .i64 x, .int .i64 y, .int .i64 w, .int .i64 h, .slice (some ⟨b1, 0, none⟩) n c1] := by rw [hw1, hg]; exact Bx.alloc (Bx.new _ _ _) _
  have x2 : Bx w1 g2 27 #[.int .i64 x, .int .i64 y, .int .i64 w, .int .i64 h, .slice (some ⟨b2, 0, none⟩) n c2] := by rw [hw1, hg2]; exact Bx.at _ (by simp)
  have B1 : Below W.heap.size W w1 := by rw [hw1]; exact bnew (bnew (Below.refl _ _))
  have r1 := h1.keep B1
  have r2 := h2.keep B1
  rw [← hg2, ← hg]
  clear hw1 hg hg2 h1 h2
  obtain ⟨q1, f1, l1⟩ := x1.all
  obtain ⟨q2, f2, l2⟩ := x2.all
  go_wp2_with fail
  refine (ref_SameFrame x y w h b1 0 c1 b2 0 c2 n xs _ hn Hxs.out r1 r2).mono ?_
  rintro e w3 ⟨rfl, B2⟩
  go_wp2_with fail
  go_ret
  exact ⟨rfl, B1.trans (B2.mono B1.size)⟩

set_option maxRecDepth 100000 in
set_option maxHeartbeats 8000000 in
theorem law_FramesP (t : ByteArray) (W : World) (E : Env W) : Calls Tryd.prog 3 #[.string t] W fun e w' => e = .returned (.bool true) ∧ Below W.heap.size W w' := by
  obtain ⟨R, hR⟩ : ∃ R, parseR t = R := ⟨_, rfl⟩
  have hsh := parseR_shape t
  rw [hR] at hsh
  have HSH := Lib.hid hsh
  have HR := Lib.hid hR
  clear hsh hR
  go_enter Tryd.func3, Tryd.ntmps3
  go_wp2_with (go_at_call 4; refine (law_landed _).mono ?_; rintro e w1 ⟨rfl, hw⟩; rw [← hw]; clear hw)
  refine (frame_Parse t _ E).mono ?_
  rw [HR.out]
  rintro e w2 ⟨v1, rfl, o1, B1⟩
  obtain ⟨x, y, w, h, vs, k, er⟩ := R
  simp only at o1
  obtain ⟨a1, n1, c1, rfl⟩ : ∃ a n c, v1 = .slice a n c := by obtain ⟨a, c, h⟩ := o1.form; exact ⟨a, _, c, h⟩
  simp only
  go_upto_region 4 with fail
  refine name_world ?_
  intro w3 hw3
  obtain ⟨g1, hg1⟩ : ∃ g, g = w2.heap.size := ⟨_, rfl⟩
  have x1 : Bx w3 g1 27 #[.int .i64 x, .int .i64 y, .int .i64 w, .int .i64 h, .slice a1 n1 c1] := by rw [hw3, hg1]; exact Bx.new _ _ _
  replace o1 : OutV W.heap.size w3 35 (.slice a1 n1 c1) (vs.map fun b => .float .f32 b) := by rw [hw3]; exact o1.al _
  replace B1 : Below W.heap.size W w3 := by rw [hw3]; exact bnew B1
  rw [← hg1]
  clear hw3 hg1
  go_wp2_with fail
  refine (ref_Parse t _ (E.below B1)).mono ?_
  rw [HR.out]
  rintro e w4 ⟨v2, rfl, o2, B2⟩
  simp only at o2
  obtain ⟨a2, n2, c2, rfl⟩ : ∃ a n c, v2 = .slice a n c := by obtain ⟨a, c, h⟩ := o2.form; exact ⟨a, _, c, h⟩
  simp only
  replace x1 := x1.keep B2
  replace o1 := o1.below B2
  replace B1 := B1.trans (B2.mono B1.size)
  clear B2
  go_upto_region 5 with fail
  refine name_world ?_
  intro w5 hw5
  obtain ⟨g2, hg2⟩ : ∃ g, g = w4.heap.size := ⟨_, rfl⟩
  have x2 : Bx w5 g2 27 #[.int .i64 x, .int .i64 y, .int .i64 w, .int .i64 h, .slice a2 n2 c2] := by rw [hw5, hg2]; exact Bx.new _ _ _
  replace x1 : Bx w5 g1 27 #[.int .i64 x, .int .i64 y, .int .i64 w, .int .i64 h, .slice a1 n1 c1] := by rw [hw5]; exact Bx.alloc x1 _
  replace o1 : OutV W.heap.size w5 35 (.slice a1 n1 c1) (vs.map fun b => .float .f32 b) := by rw [hw5]; exact o1.al _
  replace o2 : OutV w3.heap.size w5 35 (.slice a2 n2 c2) (vs.map fun b => .float .f32 b) := by rw [hw5]; exact o2.al _
  replace B1 : Below W.heap.size W w5 := by rw [hw5]; exact bnew B1
  rw [← hg2]
  clear hw5 hg2
  obtain ⟨q1, f1, l1⟩ := x1.all
  obtain ⟨q2, f2, l2⟩ := x2.all
  go_wp2_with fail
  rcases HSH.out with ⟨k0, e0, he, hb⟩ | ⟨x0, y0, w0, h0, vs0, hb, hl1, hl2⟩
  · unfold badP at hb
    simp only [PR.mk.injEq] at hb
    obtain ⟨rfl, rfl, rfl, rfl, rfl, rfl, rfl⟩ := hb
    obtain rfl : n1 = 0 := by
      obtain ⟨a, c, h⟩ := o1.form
      simp only [Value.slice.injEq] at h
      simpa using h.2.1
    refine (alike_bad _ a1 c1 _ _ _ _ _ _ he ⟨_, _, _, rfl⟩).mono ?_
    rintro e w6 ⟨rfl, B3⟩
    go_wp2_with fail
    go_ret
    exact ⟨rfl, B1.trans (B3.mono B1.size)⟩
  · simp only [PR.mk.injEq] at hb
    obtain ⟨rfl, rfl, rfl, rfl, rfl, rfl, rfl⟩ := hb
    have hne : vs ≠ [] := by rintro rfl; simp at hl1
    obtain ⟨g3, c3, h3, r3⟩ := o1.rd hne
    obtain ⟨g4, c4, h4, r4⟩ := o2.rd hne
    simp only [Value.slice.injEq] at h3 h4
    obtain ⟨rfl, rfl, rfl⟩ := h3
    obtain ⟨rfl, rfl, rfl⟩ := h4
    refine (alike_good _ _ _ _ g3 _ g4 _ _ vs _ (by omega) rfl r3 r4).mono ?_
    rintro e w6 ⟨rfl, B3⟩
    go_wp2_with fail
    go_ret
    exact ⟨rfl, B1.trans (B3.mono B1.size)⟩
end Go.Proofs.YtdcacijacmjjoaaDoor
