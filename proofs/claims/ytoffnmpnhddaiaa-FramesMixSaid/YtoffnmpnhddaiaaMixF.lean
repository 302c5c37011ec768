/- frame.Mix and frame.Through, whole; checkAll. -/
import Derived.Test.YtoffnmpnhddaiaaMix
import Derived.Test.YtoffnmpnhddaiaaMat
namespace Go.Proofs.Ytoffnmpnhddaiaa
open Go.RowKit

set_option maxRecDepth 100000 in
set_option maxHeartbeats 1000000 in
theorem frame_checkAll2 (x y w h x2 y2 w2 h2 : Int) (a a2 : Option Addr) (n c n2 c2 g k : Nat) (T : TypeId) (W : World) (hn : n ≤ maxLen) (hn2 : n2 ≤ maxLen) (h1 : checkFrame x y w h n = 0) (h2' : checkFrame x2 y2 w2 h2 n2 = 0)
    (hg : Bx W g T #[.int .i64 x, .int .i64 y, .int .i64 w, .int .i64 h, .slice a n c, .int .i64 x2, .int .i64 y2, .int .i64 w2, .int .i64 h2, .slice a2 n2 c2]) :
    Calls Try.prog 98 #[.slice (some ⟨g, 0, none⟩) 2 k] W fun e w' => e = .returned (.int .i64 0) ∧ Below W.heap.size W w' := by
  have H1 := Lib.hid h1
  have H2 := Lib.hid h2'
  have hgl := hg.lt
  clear h1 h2'
  obtain ⟨q0, f0, l0⟩ := hg.all
  go_enter Try.func98, Try.ntmps98
  go_wp2_with fail
  refine wp_loop_rounds 3 ?_
  rw [rounds_succ]
  go_wp2_with (go_at_call 87; refine (frame_Check _ _ _ _ _ _ _ _ hn).mono ?_; rw [H1.out]; rintro e w' ⟨rfl, hb1⟩)
  have B1 := bcall (bnew (Below.refl _ W)) hb1
  have x1 := hg.keep B1
  clear q0 f0 l0
  obtain ⟨q1, f1, l1⟩ := x1.all
  rw [rounds_succ]
  go_wp2_with (go_at_call 87; refine (frame_Check _ _ _ _ _ _ _ _ hn2).mono ?_; rw [H2.out]; rintro e wv ⟨rfl, hb2⟩)
  rw [rounds_succ]
  go_wp2_with fail
  go_ret
  exact ⟨rfl, bcall (bnew B1) hb2⟩

set_option maxRecDepth 100000 in
set_option maxHeartbeats 2000000 in
theorem frame_Mix_place (x y w h x2 y2 w2 h2 : Int) (a a2 : Option Addr) (n c n2 c2 t : Nat) (W : World) (hn : n ≤ maxLen) (hn2 : n2 ≤ maxLen) (h1 : checkFrame x y w h n = 0) (h2' : checkFrame x2 y2 w2 h2 n2 = 0) (hne : ¬ (x = x2 ∧ y = y2 ∧ w = w2 ∧ h = h2)) :
    Calls Try.prog 41 #[.agg #[.int .i64 x, .int .i64 y, .int .i64 w, .int .i64 h, .slice a n c], .agg #[.int .i64 x2, .int .i64 y2, .int .i64 w2, .int .i64 h2, .slice a2 n2 c2], .float .f32 t] W fun e w' =>
      e = .returned (.tuple #[.agg #[.int .i64 0, .int .i64 0, .int .i64 0, .int .i64 0, .slice none 0 0], .int .i64 5]) ∧ Below W.heap.size W w' := by
  go_enter Try.func41, Try.ntmps41
  go_wp2_with fail
  refine nm_call ?_
  intro wb hwb
  have x0 : Bx wb W.heap.size 26 #[.int .i64 x, .int .i64 y, .int .i64 w, .int .i64 h, .slice a n c] := by rw [hwb]; exact Bx.alloc (Bx.alloc (Bx.alloc (Bx.alloc (Bx.new _ _ _) _) _) _) _
  have x1 : Bx wb (W.heap.size + 1) 26 #[.int .i64 x2, .int .i64 y2, .int .i64 w2, .int .i64 h2, .slice a2 n2 c2] := by rw [hwb]; exact Bx.alloc (Bx.alloc (Bx.alloc (Bx.at _ (by simp)) _) _) _
  obtain ⟨T2, x2'⟩ : ∃ T, Bx wb (W.heap.size + 1 + 1) T #[.float .f32 t] := by rw [hwb]; exact ⟨_, Bx.alloc (Bx.alloc (Bx.at _ (by simp)) _) _⟩
  have x3' : Bx wb (W.heap.size + 1 + 1 + 1) 26 #[.int .i64 0, .int .i64 0, .int .i64 0, .int .i64 0, .slice none 0 0] := by rw [hwb]; exact Bx.alloc (Bx.at _ (by simp)) _
  obtain ⟨T, x4⟩ : ∃ T, Bx wb (W.heap.size + 1 + 1 + 1 + 1) T (#[.int .i64 x, .int .i64 y, .int .i64 w, .int .i64 h, .slice a n c] ++ #[.int .i64 x2, .int .i64 y2, .int .i64 w2, .int .i64 h2, .slice a2 n2 c2]) := by rw [hwb]; exact ⟨_, Bx.at _ (by simp)⟩
  have B1 : Below W.heap.size W wb := by rw [hwb]; exact bnew (bnew (bnew (bnew (bnew (Below.refl _ W)))))
  clear hwb
  refine (frame_checkAll2 _ _ _ _ _ _ _ _ _ _ _ _ _ _ _ _ _ _ hn hn2 h1 h2' x4).mono ?_
  rintro e w1 ⟨rfl, hb1⟩
  have y0 := x0.keep hb1
  have y1 := x1.keep hb1
  have y2' := x2'.keep hb1
  have y3' := x3'.keep hb1
  have B2 := bcall B1 hb1
  clear x0 x1 x2' x3' x4 hb1 B1 h1 h2'
  obtain ⟨q0, f0, l0⟩ := y0.all
  obtain ⟨q1, f1, l1⟩ := y1.all
  obtain ⟨q3, f3, l3⟩ := y3'.all
  have Hne := Lib.hid hne
  clear hne
  go_wp2_with fail
  all_goals first
    | exact (Hne.out ⟨(by first | rfl | assumption), (by first | rfl | assumption), (by first | rfl | assumption), (by first | rfl | assumption)⟩).elim
    | (refine bodyPost_ret (v := .tuple #[.agg #[.int .i64 0, .int .i64 0, .int .i64 0, .int .i64 0, .slice none 0 0], .int .i64 5]) (by simp [results, Try.results41, go_sem, q3]) rfl ⟨rfl, ?_⟩
       exact bput (by omega) (bput (by omega) (bput (by omega) (bput (by omega) (bput (by omega) B2)))))

set_option maxRecDepth 100000 in
set_option maxHeartbeats 2000000 in
theorem frame_Mix_ok (x y w h : Int) (b1 o1 c b2 o2 c2 n M t : Nat) (xs ys : List Nat) (W : World) (h1 : checkFrame x y w h n = 0) (hM : (M : Int) = w * h) (hM2 : M ≤ 65536) (hN : n = 4 * M) (hw1 : 1 ≤ w) (hw2 : w ≤ 256) (hxs : xs.length = n) (hys : ys.length = n) (r1 : Rd W b1 o1 xs) (r2 : Rd W b2 o2 ys) :
    Calls Try.prog 41 #[.agg #[.int .i64 x, .int .i64 y, .int .i64 w, .int .i64 h, .slice (some ⟨b1, o1, none⟩) n c], .agg #[.int .i64 x, .int .i64 y, .int .i64 w, .int .i64 h, .slice (some ⟨b2, o2, none⟩) n c2], .float .f32 t] W fun e w' =>
      ∃ g, e = .returned (.tuple #[.agg #[.int .i64 x, .int .i64 y, .int .i64 w, .int .i64 h, .slice (some ⟨g, 0, none⟩) n n], .int .i64 0]) ∧ W.heap.size ≤ g ∧ Row w' g n ((List.range n).map fun k => canon (mixV xs ys t k)) ∧ Below W.heap.size W w' := by
  have hn : n ≤ maxLen := by unfold maxLen; omega
  have hn2 : n ≤ 262144 := by omega
  have HH := Lib.hid (And.intro hM (And.intro hN (And.intro hxs hys)))
  have h2' := h1
  clear hM hN hxs hys
  go_enter Try.func41, Try.ntmps41
  go_wp2_with fail
  refine nm_call ?_
  intro wb hwb
  have x0 : Bx wb W.heap.size 26 #[.int .i64 x, .int .i64 y, .int .i64 w, .int .i64 h, .slice (some ⟨b1, o1, none⟩) n c] := by rw [hwb]; exact Bx.alloc (Bx.alloc (Bx.alloc (Bx.alloc (Bx.new _ _ _) _) _) _) _
  have x1 : Bx wb (W.heap.size + 1) 26 #[.int .i64 x, .int .i64 y, .int .i64 w, .int .i64 h, .slice (some ⟨b2, o2, none⟩) n c2] := by rw [hwb]; exact Bx.alloc (Bx.alloc (Bx.alloc (Bx.at _ (by simp)) _) _) _
  obtain ⟨T2, x2'⟩ : ∃ T, Bx wb (W.heap.size + 1 + 1) T #[.float .f32 t] := by rw [hwb]; exact ⟨_, Bx.alloc (Bx.alloc (Bx.at _ (by simp)) _) _⟩
  have x3' : Bx wb (W.heap.size + 1 + 1 + 1) 26 #[.int .i64 0, .int .i64 0, .int .i64 0, .int .i64 0, .slice none 0 0] := by rw [hwb]; exact Bx.alloc (Bx.at _ (by simp)) _
  obtain ⟨T, x4⟩ : ∃ T, Bx wb (W.heap.size + 1 + 1 + 1 + 1) T (#[.int .i64 x, .int .i64 y, .int .i64 w, .int .i64 h, .slice (some ⟨b1, o1, none⟩) n c] ++ #[.int .i64 x, .int .i64 y, .int .i64 w, .int .i64 h, .slice (some ⟨b2, o2, none⟩) n c2]) := by rw [hwb]; exact ⟨_, Bx.at _ (by simp)⟩
  have B1 : Below W.heap.size W wb := by rw [hwb]; exact bnew (bnew (bnew (bnew (bnew (Below.refl _ W)))))
  clear hwb
  refine (frame_checkAll2 _ _ _ _ _ _ _ _ _ _ _ _ _ _ _ _ _ _ hn hn h1 h2' x4).mono ?_
  rintro e w1 ⟨rfl, hb1⟩
  have y0 := x0.keep hb1
  have y1 := x1.keep hb1
  have y2' := x2'.keep hb1
  have y3' := x3'.keep hb1
  have B2 := bcall B1 hb1
  have r1' := r1.keep B2
  have r2' := r2.keep B2
  clear r1 r2 x0 x1 x2' x3' x4 hb1 B1 h1 h2'
  obtain ⟨q0, f0, l0⟩ := y0.all
  obtain ⟨q1, f1, l1⟩ := y1.all
  obtain ⟨q3, f3, l3⟩ := y3'.all
  go_wp2_with fail
  refine (frame_each x y w h M n _ _ _ _ HH.out.1 hM2 HH.out.2.1 hw1 hw2 (mix_gives x y w h x y w h b1 o1 c b2 o2 c2 n t _ _ _ _ xs ys _ hn2 HH.out.2.2.1 HH.out.2.2.2 r1' r2' y0 y1 y2')).mono ?_
  rintro e wv ⟨g, rfl, hg, hrow, hb2⟩
  have z3 := y3'.keep hb2
  have B3 := bcall B2 hb2
  have hgn : W.heap.size + 1 + 1 + 1 ≠ g := by omega
  have hge : W.heap.size ≤ g := by omega
  clear q0 f0 l0 q1 f1 l1 q3 f3 l3 y0 y1 y2' y3' hb2 hg r1' r2'
  obtain ⟨q3, f3, l3⟩ := z3.all
  go_wp2_with fail
  refine bodyPost_ret (v := .tuple #[.agg #[.int .i64 x, .int .i64 y, .int .i64 w, .int .i64 h, .slice (some ⟨g, 0, none⟩) n n], .int .i64 0]) (by simp [results, Try.results41, go_sem, q3]) rfl ⟨g, rfl, hge, ?_, ?_⟩
  · exact Row.other' hgn (Row.other' hgn (Row.other' hgn (Row.other' hgn (Row.other' hgn hrow))))
  · exact bput (by omega) (bput (by omega) (bput (by omega) (bput (by omega) (bput (by omega) B3))))

set_option maxRecDepth 100000 in
set_option maxHeartbeats 2000000 in
theorem frame_Through_bad (x y w h x2 y2 w2 h2 x3 y3 w3 h3 : Int) (a a2 a3 : Option Addr) (n c n2 c2 n3 c3 : Nat) (W : World) (hn : n ≤ maxLen) (hn2 : n2 ≤ maxLen) (h1 : checkFrame x y w h n = 0) (h2' : checkFrame x2 y2 w2 h2 n2 = 0) (k : Int) (hk : checkMatte x3 y3 w3 h3 n3 = k) (hk0 : k ≠ 0) :
    Calls Try.prog 44 #[.agg #[.int .i64 x, .int .i64 y, .int .i64 w, .int .i64 h, .slice a n c], .agg #[.int .i64 x2, .int .i64 y2, .int .i64 w2, .int .i64 h2, .slice a2 n2 c2], .agg #[.int .i64 x3, .int .i64 y3, .int .i64 w3, .int .i64 h3, .slice a3 n3 c3]] W fun e w' =>
      e = .returned (.tuple #[.agg #[.int .i64 0, .int .i64 0, .int .i64 0, .int .i64 0, .slice none 0 0], .int .i64 k]) ∧ Below W.heap.size W w' := by
  go_enter Try.func44, Try.ntmps44
  go_wp2_with fail
  refine nm_call ?_
  intro wb hwb
  have x0 : Bx wb W.heap.size 26 #[.int .i64 x, .int .i64 y, .int .i64 w, .int .i64 h, .slice a n c] := by rw [hwb]; exact Bx.alloc (Bx.alloc (Bx.alloc (Bx.alloc (Bx.new _ _ _) _) _) _) _
  have x1 : Bx wb (W.heap.size + 1) 26 #[.int .i64 x2, .int .i64 y2, .int .i64 w2, .int .i64 h2, .slice a2 n2 c2] := by rw [hwb]; exact Bx.alloc (Bx.alloc (Bx.alloc (Bx.at _ (by simp)) _) _) _
  have x2' : Bx wb (W.heap.size + 1 + 1) 62 #[.int .i64 x3, .int .i64 y3, .int .i64 w3, .int .i64 h3, .slice a3 n3 c3] := by rw [hwb]; exact Bx.alloc (Bx.alloc (Bx.at _ (by simp)) _) _
  have x3' : Bx wb (W.heap.size + 1 + 1 + 1) 26 #[.int .i64 0, .int .i64 0, .int .i64 0, .int .i64 0, .slice none 0 0] := by rw [hwb]; exact Bx.alloc (Bx.at _ (by simp)) _
  obtain ⟨T, x4⟩ : ∃ T, Bx wb (W.heap.size + 1 + 1 + 1 + 1) T (#[.int .i64 x, .int .i64 y, .int .i64 w, .int .i64 h, .slice a n c] ++ #[.int .i64 x2, .int .i64 y2, .int .i64 w2, .int .i64 h2, .slice a2 n2 c2]) := by rw [hwb]; exact ⟨_, Bx.at _ (by simp)⟩
  have B1 : Below W.heap.size W wb := by rw [hwb]; exact bnew (bnew (bnew (bnew (bnew (Below.refl _ W)))))
  clear hwb
  refine (frame_checkAll2 _ _ _ _ _ _ _ _ _ _ _ _ _ _ _ _ _ _ hn hn2 h1 h2' x4).mono ?_
  rintro e w1 ⟨rfl, hb1⟩
  have y0 := x0.keep hb1
  have y1 := x1.keep hb1
  have y2' := x2'.keep hb1
  have y3' := x3'.keep hb1
  have B2 := bcall B1 hb1
  clear x0 x1 x2' x3' x4 hb1 B1 h1 h2'
  obtain ⟨q0, f0, l0⟩ := y0.all
  obtain ⟨q1, f1, l1⟩ := y1.all
  obtain ⟨q3, f3, l3⟩ := y3'.all
  obtain ⟨q2, f2, l2⟩ := y2'.all
  go_wp2_with fail
  refine (frame_CheckMatte _ _ _ _ _ _ _ _).mono ?_
  rw [hk]
  rintro e wv ⟨rfl, hb2⟩
  have z3 := y3'.keep hb2
  have B3 := bcall B2 hb2
  clear q0 f0 l0 q1 f1 l1 q2 f2 l2 q3 f3 l3 y0 y1 y2' y3' hb2 hk
  obtain ⟨q3, f3, l3⟩ := z3.all
  go_wp2_with fail
  refine bodyPost_ret (v := .tuple #[.agg #[.int .i64 0, .int .i64 0, .int .i64 0, .int .i64 0, .slice none 0 0], .int .i64 k]) (by simp [results, Try.results44, go_sem, q3]) rfl ⟨rfl, ?_⟩
  exact bput (by omega) (bput (by omega) (bput (by omega) (bput (by omega) (bput (by omega) B3))))

set_option maxRecDepth 100000 in
set_option maxHeartbeats 2000000 in
theorem frame_Through_place (x y w h x2 y2 w2 h2 x3 y3 w3 h3 : Int) (a a2 a3 : Option Addr) (n c n2 c2 n3 c3 : Nat) (W : World) (hn : n ≤ maxLen) (hn2 : n2 ≤ maxLen) (h1 : checkFrame x y w h n = 0) (h2' : checkFrame x2 y2 w2 h2 n2 = 0) (hk : checkMatte x3 y3 w3 h3 n3 = 0) (hne : ¬ ((x = x2 ∧ y = y2 ∧ w = w2 ∧ h = h2) ∧ x = x3 ∧ y = y3 ∧ w = w3 ∧ h = h3)) :
    Calls Try.prog 44 #[.agg #[.int .i64 x, .int .i64 y, .int .i64 w, .int .i64 h, .slice a n c], .agg #[.int .i64 x2, .int .i64 y2, .int .i64 w2, .int .i64 h2, .slice a2 n2 c2], .agg #[.int .i64 x3, .int .i64 y3, .int .i64 w3, .int .i64 h3, .slice a3 n3 c3]] W fun e w' =>
      e = .returned (.tuple #[.agg #[.int .i64 0, .int .i64 0, .int .i64 0, .int .i64 0, .slice none 0 0], .int .i64 5]) ∧ Below W.heap.size W w' := by
  go_enter Try.func44, Try.ntmps44
  go_wp2_with fail
  refine nm_call ?_
  intro wb hwb
  have x0 : Bx wb W.heap.size 26 #[.int .i64 x, .int .i64 y, .int .i64 w, .int .i64 h, .slice a n c] := by rw [hwb]; exact Bx.alloc (Bx.alloc (Bx.alloc (Bx.alloc (Bx.new _ _ _) _) _) _) _
  have x1 : Bx wb (W.heap.size + 1) 26 #[.int .i64 x2, .int .i64 y2, .int .i64 w2, .int .i64 h2, .slice a2 n2 c2] := by rw [hwb]; exact Bx.alloc (Bx.alloc (Bx.alloc (Bx.at _ (by simp)) _) _) _
  have x2' : Bx wb (W.heap.size + 1 + 1) 62 #[.int .i64 x3, .int .i64 y3, .int .i64 w3, .int .i64 h3, .slice a3 n3 c3] := by rw [hwb]; exact Bx.alloc (Bx.alloc (Bx.at _ (by simp)) _) _
  have x3' : Bx wb (W.heap.size + 1 + 1 + 1) 26 #[.int .i64 0, .int .i64 0, .int .i64 0, .int .i64 0, .slice none 0 0] := by rw [hwb]; exact Bx.alloc (Bx.at _ (by simp)) _
  obtain ⟨T, x4⟩ : ∃ T, Bx wb (W.heap.size + 1 + 1 + 1 + 1) T (#[.int .i64 x, .int .i64 y, .int .i64 w, .int .i64 h, .slice a n c] ++ #[.int .i64 x2, .int .i64 y2, .int .i64 w2, .int .i64 h2, .slice a2 n2 c2]) := by rw [hwb]; exact ⟨_, Bx.at _ (by simp)⟩
  have B1 : Below W.heap.size W wb := by rw [hwb]; exact bnew (bnew (bnew (bnew (bnew (Below.refl _ W)))))
  clear hwb
  refine (frame_checkAll2 _ _ _ _ _ _ _ _ _ _ _ _ _ _ _ _ _ _ hn hn2 h1 h2' x4).mono ?_
  rintro e w1 ⟨rfl, hb1⟩
  have y0 := x0.keep hb1
  have y1 := x1.keep hb1
  have y2' := x2'.keep hb1
  have y3' := x3'.keep hb1
  have B2 := bcall B1 hb1
  clear x0 x1 x2' x3' x4 hb1 B1 h1 h2'
  obtain ⟨q0, f0, l0⟩ := y0.all
  obtain ⟨q1, f1, l1⟩ := y1.all
  obtain ⟨q3, f3, l3⟩ := y3'.all
  obtain ⟨q2, f2, l2⟩ := y2'.all
  go_wp2_with fail
  refine (frame_CheckMatte _ _ _ _ _ _ _ _).mono ?_
  rw [hk]
  rintro e wv ⟨rfl, hb2⟩
  have z0 := y0.keep hb2
  have z1 := y1.keep hb2
  have z2 := y2'.keep hb2
  have z3 := y3'.keep hb2
  have B3 := bcall B2 hb2
  clear q0 f0 l0 q1 f1 l1 q2 f2 l2 q3 f3 l3 y0 y1 y2' y3' hb2 hk
  obtain ⟨q0, f0, l0⟩ := z0.all
  obtain ⟨q1, f1, l1⟩ := z1.all
  obtain ⟨q2, f2, l2⟩ := z2.all
  obtain ⟨q3, f3, l3⟩ := z3.all
  have hd : (¬ x = x2) ∨ (¬ y = y2) ∨ (¬ w = w2) ∨ (¬ h = h2) ∨ (x = x2 ∧ y = y2 ∧ w = w2 ∧ h = h2 ∧ ¬ (x = x3 ∧ y = y3 ∧ w = w3 ∧ h = h3)) := by omega
  clear hne
  rcases hd with hd | hd | hd | hd | ⟨rfl, rfl, rfl, rfl, hd⟩
  all_goals go_wp2_with fail
  all_goals first
    | (refine bodyPost_ret (v := .tuple #[.agg #[.int .i64 0, .int .i64 0, .int .i64 0, .int .i64 0, .slice none 0 0], .int .i64 5]) (by simp [results, Try.results44, go_sem, q3]) rfl (And.intro rfl ?_)
       exact bput (by omega) (bput (by omega) (bput (by omega) (bput (by omega) (bput (by omega) B3)))))
    | exact (hd ⟨(by first | rfl | assumption), (by first | rfl | assumption), (by first | rfl | assumption), (by first | rfl | assumption)⟩).elim

set_option maxRecDepth 100000 in
set_option maxHeartbeats 2000000 in
theorem frame_Through_ok (x y w h : Int) (b1 o1 c b2 o2 c2 b3 o3 c3 n M : Nat) (xs ys ms : List Nat) (W : World) (h1 : checkFrame x y w h n = 0) (hM : (M : Int) = w * h) (hM2 : M ≤ 65536) (hN : n = 4 * M) (hw1 : 1 ≤ w) (hw2 : w ≤ 256) (hxs : xs.length = n) (hys : ys.length = n) (r1 : Rd W b1 o1 xs) (r2 : Rd W b2 o2 ys) (hms : ms.length = M) (r3 : Rd W b3 o3 ms) (hk : checkMatte x y w h M = 0) :
    Calls Try.prog 44 #[.agg #[.int .i64 x, .int .i64 y, .int .i64 w, .int .i64 h, .slice (some ⟨b1, o1, none⟩) n c], .agg #[.int .i64 x, .int .i64 y, .int .i64 w, .int .i64 h, .slice (some ⟨b2, o2, none⟩) n c2], .agg #[.int .i64 x, .int .i64 y, .int .i64 w, .int .i64 h, .slice (some ⟨b3, o3, none⟩) M c3]] W fun e w' =>
      ∃ g, e = .returned (.tuple #[.agg #[.int .i64 x, .int .i64 y, .int .i64 w, .int .i64 h, .slice (some ⟨g, 0, none⟩) n n], .int .i64 0]) ∧ W.heap.size ≤ g ∧ Row w' g n ((List.range n).map fun k => canon (thrV xs ys ms k)) ∧ Below W.heap.size W w' := by
  have hn : n ≤ maxLen := by unfold maxLen; omega
  have hn2 : n ≤ 262144 := by omega
  have HH := Lib.hid (And.intro hM (And.intro hN (And.intro hxs (And.intro hys hms))))
  have h2' := h1
  clear hM hN hxs hys hms
  go_enter Try.func44, Try.ntmps44
  go_wp2_with fail
  refine nm_call ?_
  intro wb hwb
  have x0 : Bx wb W.heap.size 26 #[.int .i64 x, .int .i64 y, .int .i64 w, .int .i64 h, .slice (some ⟨b1, o1, none⟩) n c] := by rw [hwb]; exact Bx.alloc (Bx.alloc (Bx.alloc (Bx.alloc (Bx.new _ _ _) _) _) _) _
  have x1 : Bx wb (W.heap.size + 1) 26 #[.int .i64 x, .int .i64 y, .int .i64 w, .int .i64 h, .slice (some ⟨b2, o2, none⟩) n c2] := by rw [hwb]; exact Bx.alloc (Bx.alloc (Bx.alloc (Bx.at _ (by simp)) _) _) _
  have x2' : Bx wb (W.heap.size + 1 + 1) 62 #[.int .i64 x, .int .i64 y, .int .i64 w, .int .i64 h, .slice (some ⟨b3, o3, none⟩) M c3] := by rw [hwb]; exact Bx.alloc (Bx.alloc (Bx.at _ (by simp)) _) _
  have x3' : Bx wb (W.heap.size + 1 + 1 + 1) 26 #[.int .i64 0, .int .i64 0, .int .i64 0, .int .i64 0, .slice none 0 0] := by rw [hwb]; exact Bx.alloc (Bx.at _ (by simp)) _
  obtain ⟨T, x4⟩ : ∃ T, Bx wb (W.heap.size + 1 + 1 + 1 + 1) T (#[.int .i64 x, .int .i64 y, .int .i64 w, .int .i64 h, .slice (some ⟨b1, o1, none⟩) n c] ++ #[.int .i64 x, .int .i64 y, .int .i64 w, .int .i64 h, .slice (some ⟨b2, o2, none⟩) n c2]) := by rw [hwb]; exact ⟨_, Bx.at _ (by simp)⟩
  have B1 : Below W.heap.size W wb := by rw [hwb]; exact bnew (bnew (bnew (bnew (bnew (Below.refl _ W)))))
  clear hwb
  refine (frame_checkAll2 _ _ _ _ _ _ _ _ _ _ _ _ _ _ _ _ _ _ hn hn h1 h2' x4).mono ?_
  rintro e w1 ⟨rfl, hb1⟩
  have y0 := x0.keep hb1
  have y1 := x1.keep hb1
  have y2' := x2'.keep hb1
  have y3' := x3'.keep hb1
  have B2 := bcall B1 hb1
  clear x0 x1 x2' x3' x4 hb1 B1 h1 h2'
  obtain ⟨q0, f0, l0⟩ := y0.all
  obtain ⟨q1, f1, l1⟩ := y1.all
  obtain ⟨q3, f3, l3⟩ := y3'.all
  obtain ⟨q2, f2, l2⟩ := y2'.all
  go_wp2_with fail
  refine (frame_CheckMatte _ _ _ _ _ _ _ _).mono ?_
  rw [hk]
  rintro e wv ⟨rfl, hb2⟩
  have z0 := y0.keep hb2
  have z1 := y1.keep hb2
  have z2 := y2'.keep hb2
  have z3 := y3'.keep hb2
  have B3 := bcall B2 hb2
  have r1' := r1.keep B3
  have r2' := r2.keep B3
  have r3' := r3.keep B3
  clear q0 f0 l0 q1 f1 l1 q2 f2 l2 q3 f3 l3 y0 y1 y2' y3' hb2 hk r1 r2 r3
  obtain ⟨q0, f0, l0⟩ := z0.all
  obtain ⟨q1, f1, l1⟩ := z1.all
  obtain ⟨q2, f2, l2⟩ := z2.all
  obtain ⟨q3, f3, l3⟩ := z3.all
  go_wp2_with fail
  refine (frame_each x y w h M n _ _ _ _ HH.out.1 hM2 HH.out.2.1 hw1 hw2 (thr_gives x y w h x y w h x y w h b1 o1 c b2 o2 c2 b3 o3 c3 M n _ _ _ xs ys ms _ hn2 HH.out.2.1 HH.out.2.2.1 HH.out.2.2.2.1 HH.out.2.2.2.2 r1' r2' r3' z0 z1 z2)).mono ?_
  rintro e w3 ⟨g, rfl, hg, hrow, hb3⟩
  have u3 := z3.keep hb3
  have B4 := bcall B3 hb3
  have hgn : W.heap.size + 1 + 1 + 1 ≠ g := by omega
  have hge : W.heap.size ≤ g := by omega
  clear q0 f0 l0 q1 f1 l1 q2 f2 l2 q3 f3 l3 z0 z1 z2 z3 hb3 hg r1' r2' r3'
  obtain ⟨q3, f3, l3⟩ := u3.all
  go_wp2_with fail
  refine bodyPost_ret (v := .tuple #[.agg #[.int .i64 x, .int .i64 y, .int .i64 w, .int .i64 h, .slice (some ⟨g, 0, none⟩) n n], .int .i64 0]) (by simp [results, Try.results44, go_sem, q3]) rfl ⟨g, rfl, hge, ?_, ?_⟩
  · exact Row.other' hgn (Row.other' hgn (Row.other' hgn (Row.other' hgn (Row.other' hgn hrow))))
  · exact bput (by omega) (bput (by omega) (bput (by omega) (bput (by omega) (bput (by omega) B4))))

end Go.Proofs.Ytoffnmpnhddaiaa
