/- frame.head: the first line of a frame's text. (printed by gen_fpe.py) -/
import Derived.Test.YtckadkobgmnoeaaDoorFpP
namespace Go.Proofs.YtckadkobgmnoeaaDoor
open Go.RowKit

theorem split_at (s sep : ByteArray) (w : World) (E : Env w) (hs : s.size ≤ 1048576) (h1 : 1 ≤ sep.size) : Calls Tryd.prog 34 #[.string s, .string sep] w fun e w' => e = .returned (.slice (some ⟨w.heap.size, 0, none⟩) (spl sep s).length (spl sep s).length) ∧ Bx w' w.heap.size 9 ((spl sep s).map Value.string).toArray ∧ Below w.heap.size w w' := by
  obtain ⟨m, hm⟩ := E.max
  refine (Tryd.strings_Split s sep m w (by omega) hm h1).mono ?_
  rintro e w' ⟨rfl, rfl⟩
  rw [spl_len h1]
  exact ⟨rfl, Bx.new _ _ _, (Below.refl _ _).alloc (Nat.le_refl _) _⟩
theorem name_callw {P : Program} {f : FuncId} {args : Array Value} {w0 : World} {Q : Ending → World → Prop} (h : ∀ wb, wb = w0 → Calls P f args wb Q) : Calls P f args w0 Q := h _ rfl

def HeadR (H : Option (Int × Int × Int × Int)) (e : Ending) : Prop := ∃ (x y w h : Int) (b : Bool), e = .returned (.tuple #[.agg #[.int .i64 x, .int .i64 y, .int .i64 w, .int .i64 h], .bool b]) ∧ (match H with | some q => b = true ∧ q = (x, y, w, h) | none => b = false)
theorem str_lit (a b : ByteArray) : (a.toList == b.data.toList) = decide (a = b) := by rw [← Lib.toList_data b]; exact str_beq a b
theorem region_put {w : World} {g : Nat} {T : TypeId} {a b c d : Value} (x : Bx w g T #[a, b, c, d]) (a' b' c' d' : Value) : Bx ((((w.setCell ⟨g, 0, none⟩ a').setCell ⟨g, 1, none⟩ b').setCell ⟨g, 2, none⟩ c').setCell ⟨g, 3, none⟩ d') g T #[a', b', c', d'] := by
  have := (((x.set 0 a').set 1 b').set 2 c').set 3 d'
  simpa using this
def HeadO (s : ByteArray) (e : Ending) : Prop := HeadR (headL (spl spB s)) e

set_option maxRecDepth 100000 in
set_option maxHeartbeats 4000000 in
theorem frame_head (s : ByteArray) (W : World) (E : Env W) (hs : s.size ≤ 1048576) : Calls Tryd.prog 21 #[.string s] W fun e w' => HeadO s e ∧ Below W.heap.size W w' := by
  have hsz : ∀ p, p ∈ spl spB s → p.size ≤ 281474976710656 := fun p hp => by have := spl_mem_size (by decide) hp; omega
  obtain ⟨L, hL⟩ : ∃ L, spl spB s = L := ⟨_, rfl⟩
  unfold HeadO
  rw [hL] at hsz ⊢
  obtain ⟨H, hH⟩ : ∃ H, headL L = H := ⟨_, rfl⟩
  rw [hH]
  have HH := Lib.hid hH
  clear hH
  have HZ := Lib.hid hsz
  have HL := Lib.hid hL
  clear hsz hL
  go_enter Tryd.func21, Tryd.ntmps21
  go_wp2_with fail
  refine name_callw ?_
  intro w1 hw1
  obtain ⟨g, hg⟩ : ∃ g, g = W.heap.size := ⟨_, rfl⟩
  have x1 : Bx w1 g 23 #[.int .i64 0, .int .i64 0, .int .i64 0, .int .i64 0] := by rw [hw1, hg]; exact Bx.new _ _ _
  have B1 : Below W.heap.size W w1 := by rw [hw1]; exact bnew (Below.refl _ _)
  have hWg : W.heap.size ≤ g := Nat.le_of_eq hg.symm
  rw [← hg]
  clear hw1 hg
  have E1 := E.below B1
  refine (split_at s spB _ E1 hs (by decide)).mono ?_
  rintro e w2 ⟨rfl, x2, B2⟩
  rw [HL.out] at x2 ⊢
  obtain ⟨g2, hg2⟩ : ∃ g2, g2 = w1.heap.size := ⟨_, rfl⟩
  rw [← hg2] at x2 ⊢
  have hgg : g < g2 := by rw [hg2]; exact x1.lt
  replace x1 := x1.keep B2
  replace B1 : Below W.heap.size W w2 := B1.trans (B2.mono B1.size)
  clear B2 hg2 E1
  obtain ⟨n, hn⟩ : ∃ n, L.length = n := ⟨_, rfl⟩
  rw [hn]
  obtain ⟨q1, f1, l1⟩ := x1.all
  by_cases h5 : n = 5
  rotate_left
  · have hne : ((n : Int) != 5) = true := bne_iff_ne.2 (by omega)
    have hh : headL L = none := by
      unfold headL
      split
      · rename_i a b c d f
        exact absurd hn (by simp; omega)
      · rfl
    obtain rfl : none = H := hh.symm.trans HH.out
    go_wp2_with fail
    obtain ⟨q9, _, _⟩ := (region_put x1 (.int .i64 0) (.int .i64 0) (.int .i64 0) (.int .i64 0)).all
    refine bodyPost_ret (v := .tuple #[.agg #[.int .i64 0, .int .i64 0, .int .i64 0, .int .i64 0], .bool false]) (by simp [results, Tryd.results21, go_sem, q9]) rfl ⟨show HeadR none _ from ⟨_, _, _, _, _, rfl, rfl⟩, ?_⟩
    exact bput hWg (bput hWg (bput hWg (bput hWg B1)))
  · subst h5
    obtain ⟨a0, a1, a2, a3, a4, rfl⟩ : ∃ a0 a1 a2 a3 a4, L = [a0, a1, a2, a3, a4] := by
      rcases L with _ | ⟨a0, _ | ⟨a1, _ | ⟨a2, _ | ⟨a3, _ | ⟨a4, _ | ⟨a5, L⟩⟩⟩⟩⟩⟩
      case cons.cons.cons.cons.cons.nil => exact ⟨_, _, _, _, _, rfl⟩
      all_goals simp at hn
    clear hn
    replace x2 : Bx w2 g2 9 #[.string a0, .string a1, .string a2, .string a3, .string a4] := x2
    obtain ⟨q2, f2, l2⟩ := x2.all
    by_cases hfr : a0 = frameB
    rotate_left
    · have hneq : (a0.toList == ([102, 114, 97, 109, 101] : List UInt8)) = false := (str_lit a0 frameB).trans (decide_eq_false hfr)
      have hh : headL [a0, a1, a2, a3, a4] = none := by
        simp only [headL]
        rw [if_neg]
        rintro ⟨h, _⟩; exact hfr h
      obtain rfl : none = H := hh.symm.trans HH.out
      go_wp2_with fail
      obtain ⟨q9, _, _⟩ := (region_put x1 (.int .i64 0) (.int .i64 0) (.int .i64 0) (.int .i64 0)).all
      refine bodyPost_ret (v := .tuple #[.agg #[.int .i64 0, .int .i64 0, .int .i64 0, .int .i64 0], .bool false]) (by simp [results, Tryd.results21, go_sem, q9]) rfl ⟨show HeadR none _ from ⟨_, _, _, _, _, rfl, rfl⟩, ?_⟩
      exact bput hWg (bput hWg (bput hWg (bput hWg B1)))
    have hneq : (a0.toList == ([102, 114, 97, 109, 101] : List UInt8)) = true := (str_lit a0 frameB).trans (decide_eq_true hfr)
    obtain ⟨n1, b1, hi1⟩ : ∃ n b, intR a1.data.toList = (n, b) := ⟨_, _, rfl⟩
    have hz1 : a1.size ≤ 281474976710656 := HZ.out _ (by simp)
    obtain ⟨n2, b2, hi2⟩ : ∃ n b, intR a2.data.toList = (n, b) := ⟨_, _, rfl⟩
    have hz2 : a2.size ≤ 281474976710656 := HZ.out _ (by simp)
    obtain ⟨n3, b3, hi3⟩ : ∃ n b, intR a3.data.toList = (n, b) := ⟨_, _, rfl⟩
    have hz3 : a3.size ≤ 281474976710656 := HZ.out _ (by simp)
    obtain ⟨n4, b4, hi4⟩ : ∃ n b, intR a4.data.toList = (n, b) := ⟨_, _, rfl⟩
    have hz4 : a4.size ≤ 281474976710656 := HZ.out _ (by simp)
    have HFR := Lib.hid hfr
    clear hfr
    go_wp2_with fail
    refine name_world ?_
    intro w4 hw4
    obtain ⟨g3, hg3⟩ : ∃ g3, g3 = w2.heap.size := ⟨_, rfl⟩
    have xp : Bx w4 g3 74 #[.pointer (some ⟨g, 0, none⟩), .pointer (some ⟨g, 1, none⟩), .pointer (some ⟨g, 2, none⟩), .pointer (some ⟨g, 3, none⟩)] := by rw [hw4, hg3]; exact Bx.new _ _ _
    have hgg3 : g < g3 := by rw [hg3]; exact x1.lt
    have x1' : Bx w4 g 23 #[.int .i64 0, .int .i64 0, .int .i64 0, .int .i64 0] := by rw [hw4]; exact Bx.alloc x1 _
    have x2' : Bx w4 g2 9 #[.string a0, .string a1, .string a2, .string a3, .string a4] := by rw [hw4]; exact Bx.alloc x2 _
    have B4 : Below W.heap.size W w4 := by rw [hw4]; exact bnew B1
    rw [← hg3]
    clear hw4 hg3 x1 x2 B1 q1 f1 l1 q2 f2 l2 hneq
    go_loopw [3, 5, 6, 25] (fun kv _ _ iv wr => ∃ (i : Int) (ok : Bool) (c0 c1 c2 c3 : Int), kv = .bool ok ∧ iv = .int .i64 i ∧ Bx wr g 23 #[.int .i64 c0, .int .i64 c1, .int .i64 c2, .int .i64 c3] ∧ Bx wr g2 9 #[.string a0, .string a1, .string a2, .string a3, .string a4] ∧ Bx wr g3 74 #[.pointer (some ⟨g, 0, none⟩), .pointer (some ⟨g, 1, none⟩), .pointer (some ⟨g, 2, none⟩), .pointer (some ⟨g, 3, none⟩)] ∧ Below W.heap.size W wr ∧ (0 = i ∧ (false = ok ∧ 0 = c0 ∧ 0 = c1 ∧ 0 = c2 ∧ 0 = c3) ∨ 1 = i ∧ (true = ok ∧ n1 = c0 ∧ 0 = c1 ∧ 0 = c2 ∧ 0 = c3) ∧ b1 = true ∨ 2 = i ∧ (true = ok ∧ n1 = c0 ∧ n2 = c1 ∧ 0 = c2 ∧ 0 = c3) ∧ b1 = true ∧ b2 = true ∨ 3 = i ∧ (true = ok ∧ n1 = c0 ∧ n2 = c1 ∧ n3 = c2 ∧ 0 = c3) ∧ b1 = true ∧ b2 = true ∧ b3 = true ∨ 4 = i ∧ (true = ok ∧ n1 = c0 ∧ n2 = c1 ∧ n3 = c2 ∧ n4 = c3) ∧ b1 = true ∧ b2 = true ∧ b3 = true ∧ b4 = true)) (fun _ _ _ iv _ => 4 - (intOf iv).toNat)
    case atStart => exact ⟨0, false, 0, 0, 0, 0, rfl, rfl, x1', x2', xp, B4, .inl ⟨rfl, rfl, rfl, rfl, rfl, rfl⟩⟩
    case round =>
      clear x1' x2' xp B4
      obtain ⟨i, ok, c0, c1, c2, c3, rfl, rfl, x1, x2, xp, B1, hin⟩ := hrel
      obtain ⟨q1, f1, l1⟩ := x1.all
      obtain ⟨q2, f2, l2⟩ := x2.all
      obtain ⟨qp, fp, lp⟩ := xp.all
      rcases hin with ⟨rfl, ⟨rfl, rfl, rfl, rfl, rfl⟩⟩ | ⟨rfl, ⟨rfl, rfl, rfl, rfl, rfl⟩, hb1⟩ | ⟨rfl, ⟨rfl, rfl, rfl, rfl, rfl⟩, hb1, hb2⟩ | ⟨rfl, ⟨rfl, rfl, rfl, rfl, rfl⟩, hb1, hb2, hb3⟩ | ⟨rfl, ⟨rfl, rfl, rfl, rfl, rfl⟩, hb1, hb2, hb3, hb4⟩
      · cases hb1 : b1
        · rw [hb1] at hi1
          have hh : headL [a0, a1, a2, a3, a4] = none := by
            simp only [headL]
            rw [if_neg]
            rintro ⟨_, h1, h2, h3, h4⟩
            rw [hi1] at h1
            cases h1
          obtain rfl : none = H := hh.symm.trans HH.out
          go_wp2_with fail
          refine (frame_integer a1 _ (E.below B1) (hz1)).mono ?_
          rw [hi1]
          rintro e w3 ⟨rfl, B3⟩
          have x3 := (x1.keep B3).set 0 (.int .i64 n1)
          replace x3 : Bx (w3.setCell ⟨g, 0, none⟩ (.int .i64 n1)) g 23 #[.int .i64 n1, .int .i64 0, .int .i64 0, .int .i64 0] := by simpa using x3
          replace B1 : Below W.heap.size W (w3.setCell ⟨g, 0, none⟩ (.int .i64 n1)) := bput hWg (B1.trans (B3.mono B1.size))
          obtain ⟨q3, f3, l3⟩ := x3.all
          obtain ⟨q4, f4, l4⟩ := (x1.keep B3).all
          clear x1 q1 f1 B3
          go_wp2_with fail
          obtain ⟨q9, _, _⟩ := (region_put x3 (.int .i64 n1) (.int .i64 0) (.int .i64 0) (.int .i64 0)).all
          refine bodyPost_ret (v := .tuple #[.agg #[.int .i64 n1, .int .i64 0, .int .i64 0, .int .i64 0], .bool false]) (by simp [results, Tryd.results21, go_sem, q9]) rfl ⟨show HeadR none _ from ⟨_, _, _, _, _, rfl, rfl⟩, ?_⟩
          exact bput hWg (bput hWg (bput hWg (bput hWg B1)))
        · rw [hb1] at hi1
          go_wp2_with fail
          refine (frame_integer a1 _ (E.below B1) (hz1)).mono ?_
          rw [hi1]
          rintro e w3 ⟨rfl, B3⟩
          have x3 := (x1.keep B3).set 0 (.int .i64 n1)
          replace x3 : Bx (w3.setCell ⟨g, 0, none⟩ (.int .i64 n1)) g 23 #[.int .i64 n1, .int .i64 0, .int .i64 0, .int .i64 0] := by simpa using x3
          replace B1 : Below W.heap.size W (w3.setCell ⟨g, 0, none⟩ (.int .i64 n1)) := bput hWg (B1.trans (B3.mono B1.size))
          have x2' : Bx (w3.setCell ⟨g, 0, none⟩ (.int .i64 n1)) g2 _ _ := (x2.keep B3).other _ _ (by dsimp only; omega)
          have xp' : Bx (w3.setCell ⟨g, 0, none⟩ (.int .i64 n1)) g3 _ _ := (xp.keep B3).other _ _ (by dsimp only; omega)
          obtain ⟨q3, f3, l3⟩ := x3.all
          obtain ⟨q4, f4, l4⟩ := (x1.keep B3).all
          clear x1 q1 f1 B3
          go_wp2_with fail
          go_roundw
          case rel => exact ⟨_, true, _, _, _, _, rfl, rfl, x3, x2', xp', B1, .inr (.inl (⟨rfl, ⟨rfl, rfl, rfl, rfl, rfl⟩, trivial⟩))⟩
          case measure => simp [intOf]
      · cases hb2 : b2
        · rw [hb2] at hi2
          have hh : headL [a0, a1, a2, a3, a4] = none := by
            simp only [headL]
            rw [if_neg]
            rintro ⟨_, h1, h2, h3, h4⟩
            rw [hi2] at h2
            cases h2
          obtain rfl : none = H := hh.symm.trans HH.out
          go_wp2_with fail
          refine (frame_integer a2 _ (E.below B1) (hz2)).mono ?_
          rw [hi2]
          rintro e w3 ⟨rfl, B3⟩
          have x3 := (x1.keep B3).set 1 (.int .i64 n2)
          replace x3 : Bx (w3.setCell ⟨g, 1, none⟩ (.int .i64 n2)) g 23 #[.int .i64 n1, .int .i64 n2, .int .i64 0, .int .i64 0] := by simpa using x3
          replace B1 : Below W.heap.size W (w3.setCell ⟨g, 1, none⟩ (.int .i64 n2)) := bput hWg (B1.trans (B3.mono B1.size))
          obtain ⟨q3, f3, l3⟩ := x3.all
          obtain ⟨q4, f4, l4⟩ := (x1.keep B3).all
          clear x1 q1 f1 B3
          go_wp2_with fail
          obtain ⟨q9, _, _⟩ := (region_put x3 (.int .i64 n1) (.int .i64 n2) (.int .i64 0) (.int .i64 0)).all
          refine bodyPost_ret (v := .tuple #[.agg #[.int .i64 n1, .int .i64 n2, .int .i64 0, .int .i64 0], .bool false]) (by simp [results, Tryd.results21, go_sem, q9]) rfl ⟨show HeadR none _ from ⟨_, _, _, _, _, rfl, rfl⟩, ?_⟩
          exact bput hWg (bput hWg (bput hWg (bput hWg B1)))
        · rw [hb2] at hi2
          go_wp2_with fail
          refine (frame_integer a2 _ (E.below B1) (hz2)).mono ?_
          rw [hi2]
          rintro e w3 ⟨rfl, B3⟩
          have x3 := (x1.keep B3).set 1 (.int .i64 n2)
          replace x3 : Bx (w3.setCell ⟨g, 1, none⟩ (.int .i64 n2)) g 23 #[.int .i64 n1, .int .i64 n2, .int .i64 0, .int .i64 0] := by simpa using x3
          replace B1 : Below W.heap.size W (w3.setCell ⟨g, 1, none⟩ (.int .i64 n2)) := bput hWg (B1.trans (B3.mono B1.size))
          have x2' : Bx (w3.setCell ⟨g, 1, none⟩ (.int .i64 n2)) g2 _ _ := (x2.keep B3).other _ _ (by dsimp only; omega)
          have xp' : Bx (w3.setCell ⟨g, 1, none⟩ (.int .i64 n2)) g3 _ _ := (xp.keep B3).other _ _ (by dsimp only; omega)
          obtain ⟨q3, f3, l3⟩ := x3.all
          obtain ⟨q4, f4, l4⟩ := (x1.keep B3).all
          clear x1 q1 f1 B3
          go_wp2_with fail
          go_roundw
          case rel => exact ⟨_, true, _, _, _, _, rfl, rfl, x3, x2', xp', B1, .inr (.inr (.inl (⟨rfl, ⟨rfl, rfl, rfl, rfl, rfl⟩, hb1, trivial⟩)))⟩
          case measure => simp [intOf]
      · cases hb3 : b3
        · rw [hb3] at hi3
          have hh : headL [a0, a1, a2, a3, a4] = none := by
            simp only [headL]
            rw [if_neg]
            rintro ⟨_, h1, h2, h3, h4⟩
            rw [hi3] at h3
            cases h3
          obtain rfl : none = H := hh.symm.trans HH.out
          go_wp2_with fail
          refine (frame_integer a3 _ (E.below B1) (hz3)).mono ?_
          rw [hi3]
          rintro e w3 ⟨rfl, B3⟩
          have x3 := (x1.keep B3).set 2 (.int .i64 n3)
          replace x3 : Bx (w3.setCell ⟨g, 2, none⟩ (.int .i64 n3)) g 23 #[.int .i64 n1, .int .i64 n2, .int .i64 n3, .int .i64 0] := by simpa using x3
          replace B1 : Below W.heap.size W (w3.setCell ⟨g, 2, none⟩ (.int .i64 n3)) := bput hWg (B1.trans (B3.mono B1.size))
          obtain ⟨q3, f3, l3⟩ := x3.all
          obtain ⟨q4, f4, l4⟩ := (x1.keep B3).all
          clear x1 q1 f1 B3
          go_wp2_with fail
          obtain ⟨q9, _, _⟩ := (region_put x3 (.int .i64 n1) (.int .i64 n2) (.int .i64 n3) (.int .i64 0)).all
          refine bodyPost_ret (v := .tuple #[.agg #[.int .i64 n1, .int .i64 n2, .int .i64 n3, .int .i64 0], .bool false]) (by simp [results, Tryd.results21, go_sem, q9]) rfl ⟨show HeadR none _ from ⟨_, _, _, _, _, rfl, rfl⟩, ?_⟩
          exact bput hWg (bput hWg (bput hWg (bput hWg B1)))
        · rw [hb3] at hi3
          go_wp2_with fail
          refine (frame_integer a3 _ (E.below B1) (hz3)).mono ?_
          rw [hi3]
          rintro e w3 ⟨rfl, B3⟩
          have x3 := (x1.keep B3).set 2 (.int .i64 n3)
          replace x3 : Bx (w3.setCell ⟨g, 2, none⟩ (.int .i64 n3)) g 23 #[.int .i64 n1, .int .i64 n2, .int .i64 n3, .int .i64 0] := by simpa using x3
          replace B1 : Below W.heap.size W (w3.setCell ⟨g, 2, none⟩ (.int .i64 n3)) := bput hWg (B1.trans (B3.mono B1.size))
          have x2' : Bx (w3.setCell ⟨g, 2, none⟩ (.int .i64 n3)) g2 _ _ := (x2.keep B3).other _ _ (by dsimp only; omega)
          have xp' : Bx (w3.setCell ⟨g, 2, none⟩ (.int .i64 n3)) g3 _ _ := (xp.keep B3).other _ _ (by dsimp only; omega)
          obtain ⟨q3, f3, l3⟩ := x3.all
          obtain ⟨q4, f4, l4⟩ := (x1.keep B3).all
          clear x1 q1 f1 B3
          go_wp2_with fail
          go_roundw
          case rel => exact ⟨_, true, _, _, _, _, rfl, rfl, x3, x2', xp', B1, .inr (.inr (.inr (.inl (⟨rfl, ⟨rfl, rfl, rfl, rfl, rfl⟩, hb1, hb2, trivial⟩))))⟩
          case measure => simp [intOf]
      · cases hb4 : b4
        · rw [hb4] at hi4
          have hh : headL [a0, a1, a2, a3, a4] = none := by
            simp only [headL]
            rw [if_neg]
            rintro ⟨_, h1, h2, h3, h4⟩
            rw [hi4] at h4
            cases h4
          obtain rfl : none = H := hh.symm.trans HH.out
          go_wp2_with fail
          refine (frame_integer a4 _ (E.below B1) (hz4)).mono ?_
          rw [hi4]
          rintro e w3 ⟨rfl, B3⟩
          have x3 := (x1.keep B3).set 3 (.int .i64 n4)
          replace x3 : Bx (w3.setCell ⟨g, 3, none⟩ (.int .i64 n4)) g 23 #[.int .i64 n1, .int .i64 n2, .int .i64 n3, .int .i64 n4] := by simpa using x3
          replace B1 : Below W.heap.size W (w3.setCell ⟨g, 3, none⟩ (.int .i64 n4)) := bput hWg (B1.trans (B3.mono B1.size))
          obtain ⟨q3, f3, l3⟩ := x3.all
          obtain ⟨q4, f4, l4⟩ := (x1.keep B3).all
          clear x1 q1 f1 B3
          go_wp2_with fail
          obtain ⟨q9, _, _⟩ := (region_put x3 (.int .i64 n1) (.int .i64 n2) (.int .i64 n3) (.int .i64 n4)).all
          refine bodyPost_ret (v := .tuple #[.agg #[.int .i64 n1, .int .i64 n2, .int .i64 n3, .int .i64 n4], .bool false]) (by simp [results, Tryd.results21, go_sem, q9]) rfl ⟨show HeadR none _ from ⟨_, _, _, _, _, rfl, rfl⟩, ?_⟩
          exact bput hWg (bput hWg (bput hWg (bput hWg B1)))
        · rw [hb4] at hi4
          go_wp2_with fail
          refine (frame_integer a4 _ (E.below B1) (hz4)).mono ?_
          rw [hi4]
          rintro e w3 ⟨rfl, B3⟩
          have x3 := (x1.keep B3).set 3 (.int .i64 n4)
          replace x3 : Bx (w3.setCell ⟨g, 3, none⟩ (.int .i64 n4)) g 23 #[.int .i64 n1, .int .i64 n2, .int .i64 n3, .int .i64 n4] := by simpa using x3
          replace B1 : Below W.heap.size W (w3.setCell ⟨g, 3, none⟩ (.int .i64 n4)) := bput hWg (B1.trans (B3.mono B1.size))
          have x2' : Bx (w3.setCell ⟨g, 3, none⟩ (.int .i64 n4)) g2 _ _ := (x2.keep B3).other _ _ (by dsimp only; omega)
          have xp' : Bx (w3.setCell ⟨g, 3, none⟩ (.int .i64 n4)) g3 _ _ := (xp.keep B3).other _ _ (by dsimp only; omega)
          obtain ⟨q3, f3, l3⟩ := x3.all
          obtain ⟨q4, f4, l4⟩ := (x1.keep B3).all
          clear x1 q1 f1 B3
          go_wp2_with fail
          go_roundw
          case rel => exact ⟨_, true, _, _, _, _, rfl, rfl, x3, x2', xp', B1, .inr (.inr (.inr (.inr (⟨rfl, ⟨rfl, rfl, rfl, rfl, rfl⟩, hb1, hb2, hb3, trivial⟩))))⟩
          case measure => simp [intOf]
      · have hh : headL [a0, a1, a2, a3, a4] = some (n1, n2, n3, n4) := by
          simp only [headL]
          rw [hi1, hi2, hi3, hi4, if_pos ⟨HFR.out, hb1, hb2, hb3, hb4⟩]
        obtain rfl : some (n1, n2, n3, n4) = H := hh.symm.trans HH.out
        go_wp2_with fail
        obtain ⟨q9, _, _⟩ := (region_put x1 (.int .i64 n1) (.int .i64 n2) (.int .i64 n3) (.int .i64 n4)).all
        refine bodyPost_ret (v := .tuple #[.agg #[.int .i64 n1, .int .i64 n2, .int .i64 n3, .int .i64 n4], .bool true]) (by simp [results, Tryd.results21, go_sem, q9]) rfl ⟨show HeadR (some _) _ from ⟨_, _, _, _, _, rfl, rfl, rfl⟩, ?_⟩
        exact bput hWg (bput hWg (bput hWg (bput hWg B1)))
end Go.Proofs.YtckadkobgmnoeaaDoor
