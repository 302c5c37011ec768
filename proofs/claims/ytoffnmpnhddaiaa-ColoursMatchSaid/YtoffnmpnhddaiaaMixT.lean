/- dyeref1.Mix and dyeref1.Through, whole; alike. -/
import Derived.Test.YtoffnmpnhddaiaaMixR
import Derived.Test.YtoffnmpnhddaiaaSame
import Derived.Deep.DeepCutAuto
namespace Go.Proofs.Ytoffnmpnhddaiaa
open Go.RowKit

set_option maxRecDepth 100000 in
set_option maxHeartbeats 2000000 in
theorem ref_Mix_place (x y w h x2 y2 w2 h2 : Int) (a a2 : Option Addr) (n c n2 c2 t : Nat) (W : World) (hne : ¬ (x = x2 ∧ y = y2 ∧ w = w2 ∧ h = h2)) :
    Calls Try.prog 42 #[.agg #[.int .i64 x, .int .i64 y, .int .i64 w, .int .i64 h, .slice a n c], .agg #[.int .i64 x2, .int .i64 y2, .int .i64 w2, .int .i64 h2, .slice a2 n2 c2], .float .f32 t] W fun e w' =>
      e = .returned (.tuple #[.agg #[.int .i64 0, .int .i64 0, .int .i64 0, .int .i64 0, .slice none 0 0], .int .i64 5]) ∧ Below W.heap.size W w' := by
  have hd : (¬ x = x2) ∨ (¬ y = y2) ∨ (¬ w = w2) ∨ (¬ h = h2) := by omega
  clear hne
  go_enter Try.func42, Try.ntmps42
  go_upto_region 1 with fail
  refine name_world ?_
  intro wb hwb
  have x0 : Bx wb W.heap.size 26 #[.int .i64 x, .int .i64 y, .int .i64 w, .int .i64 h, .slice a n c] := by rw [hwb]; exact Bx.alloc (Bx.alloc (Bx.alloc (Bx.new _ _ _) _) _) _
  have x1 : Bx wb (W.heap.size + 1) 26 #[.int .i64 x2, .int .i64 y2, .int .i64 w2, .int .i64 h2, .slice a2 n2 c2] := by rw [hwb]; exact Bx.alloc (Bx.alloc (Bx.at _ (by simp)) _) _
  obtain ⟨T2, x2'⟩ : ∃ T, Bx wb (W.heap.size + 1 + 1) T #[.float .f32 t] := by rw [hwb]; exact ⟨_, Bx.alloc (Bx.at _ (by simp)) _⟩
  have x3' : Bx wb (W.heap.size + 1 + 1 + 1) 26 #[.int .i64 0, .int .i64 0, .int .i64 0, .int .i64 0, .slice none 0 0] := by rw [hwb]; exact Bx.at _ (by simp)
  have B1 : Below W.heap.size W wb := by rw [hwb]; exact bnew (bnew (bnew (bnew (Below.refl _ W))))
  clear hwb
  obtain ⟨q0, f0, l0⟩ := x0.all
  obtain ⟨q1, f1, l1⟩ := x1.all
  obtain ⟨q2, f2, l2⟩ := x2'.all
  obtain ⟨q3, f3, l3⟩ := x3'.all
  rcases hd with hd | hd | hd | hd
  all_goals go_wp2_with fail
  all_goals first
    | (refine bodyPost_ret (v := .tuple #[.agg #[.int .i64 0, .int .i64 0, .int .i64 0, .int .i64 0, .slice none 0 0], .int .i64 5]) (by simp [results, Try.results42, go_sem, q3]) rfl (And.intro rfl ?_)
       exact bput (by omega) (bput (by omega) (bput (by omega) (bput (by omega) (bput (by omega) B1)))))
    | exact (hd (by assumption)).elim

set_option maxRecDepth 100000 in
set_option maxHeartbeats 2000000 in
theorem ref_Through_place (x y w h x2 y2 w2 h2 x3 y3 w3 h3 : Int) (a a2 a3 : Option Addr) (n c n2 c2 n3 c3 : Nat) (W : World) (hne : ¬ ((x = x2 ∧ y = y2 ∧ w = w2 ∧ h = h2) ∧ x = x3 ∧ y = y3 ∧ w = w3 ∧ h = h3)) :
    Calls Try.prog 46 #[.agg #[.int .i64 x, .int .i64 y, .int .i64 w, .int .i64 h, .slice a n c], .agg #[.int .i64 x2, .int .i64 y2, .int .i64 w2, .int .i64 h2, .slice a2 n2 c2], .agg #[.int .i64 x3, .int .i64 y3, .int .i64 w3, .int .i64 h3, .slice a3 n3 c3]] W fun e w' =>
      e = .returned (.tuple #[.agg #[.int .i64 0, .int .i64 0, .int .i64 0, .int .i64 0, .slice none 0 0], .int .i64 5]) ∧ Below W.heap.size W w' := by
  have hd : (¬ x = x2) ∨ (¬ y = y2) ∨ (¬ w = w2) ∨ (¬ h = h2) ∨ (x = x2 ∧ y = y2 ∧ w = w2 ∧ h = h2 ∧ ¬ (x = x3 ∧ y = y3 ∧ w = w3 ∧ h = h3)) := by omega
  clear hne
  go_enter Try.func46, Try.ntmps46
  go_upto_region 1 with fail
  refine name_world ?_
  intro wb hwb
  have x0 : Bx wb W.heap.size 26 #[.int .i64 x, .int .i64 y, .int .i64 w, .int .i64 h, .slice a n c] := by rw [hwb]; exact Bx.alloc (Bx.alloc (Bx.alloc (Bx.new _ _ _) _) _) _
  have x1 : Bx wb (W.heap.size + 1) 26 #[.int .i64 x2, .int .i64 y2, .int .i64 w2, .int .i64 h2, .slice a2 n2 c2] := by rw [hwb]; exact Bx.alloc (Bx.alloc (Bx.at _ (by simp)) _) _
  have x2' : Bx wb (W.heap.size + 1 + 1) 62 #[.int .i64 x3, .int .i64 y3, .int .i64 w3, .int .i64 h3, .slice a3 n3 c3] := by rw [hwb]; exact Bx.alloc (Bx.at _ (by simp)) _
  have x3' : Bx wb (W.heap.size + 1 + 1 + 1) 26 #[.int .i64 0, .int .i64 0, .int .i64 0, .int .i64 0, .slice none 0 0] := by rw [hwb]; exact Bx.at _ (by simp)
  have B1 : Below W.heap.size W wb := by rw [hwb]; exact bnew (bnew (bnew (bnew (Below.refl _ W))))
  clear hwb
  obtain ⟨q0, f0, l0⟩ := x0.all
  obtain ⟨q1, f1, l1⟩ := x1.all
  obtain ⟨q2, f2, l2⟩ := x2'.all
  obtain ⟨q3, f3, l3⟩ := x3'.all
  rcases hd with hd | hd | hd | hd | ⟨rfl, rfl, rfl, rfl, hd⟩
  all_goals go_wp2_with fail
  all_goals first
    | (refine bodyPost_ret (v := .tuple #[.agg #[.int .i64 0, .int .i64 0, .int .i64 0, .int .i64 0, .slice none 0 0], .int .i64 5]) (by simp [results, Try.results46, go_sem, q3]) rfl (And.intro rfl ?_)
       exact bput (by omega) (bput (by omega) (bput (by omega) (bput (by omega) (bput (by omega) B1)))))
    | exact (hd ⟨(by first | rfl | assumption), (by first | rfl | assumption), (by first | rfl | assumption), (by first | rfl | assumption)⟩).elim

set_option maxRecDepth 100000 in
set_option maxHeartbeats 2000000 in
theorem ref_Mix_ok (x y w h : Int) (b1 o1 c b2 o2 c2 n M t : Nat) (xs ys : List Nat) (W : World) (hM1 : 0 < M) (hM2 : M ≤ 65536) (hN : n = 4 * M) (hnc : n ≤ c) (hxs : xs.length = n) (hys : ys.length = n) (r1 : Rd W b1 o1 xs) (r2 : Rd W b2 o2 ys) :
    Calls Try.prog 42 #[.agg #[.int .i64 x, .int .i64 y, .int .i64 w, .int .i64 h, .slice (some ⟨b1, o1, none⟩) n c], .agg #[.int .i64 x, .int .i64 y, .int .i64 w, .int .i64 h, .slice (some ⟨b2, o2, none⟩) n c2], .float .f32 t] W fun e w' =>
      ∃ g k, e = .returned (.tuple #[.agg #[.int .i64 x, .int .i64 y, .int .i64 w, .int .i64 h, .slice (some ⟨g, 0, none⟩) n k], .int .i64 0]) ∧ n ≤ k ∧ W.heap.size ≤ g ∧ Rd w' g 0 ((List.range n).map fun k => canon (mixV xs ys t k)) ∧ Below W.heap.size W w' := by
  have HH := Lib.hid (And.intro hN (And.intro hxs hys))
  clear hN hxs hys
  go_enter Try.func42, Try.ntmps42
  go_upto_region 1 with fail
  refine name_world ?_
  intro wb hwb
  have x0 : Bx wb W.heap.size 26 #[.int .i64 x, .int .i64 y, .int .i64 w, .int .i64 h, .slice (some ⟨b1, o1, none⟩) n c] := by rw [hwb]; exact Bx.alloc (Bx.alloc (Bx.alloc (Bx.new _ _ _) _) _) _
  have x1 : Bx wb (W.heap.size + 1) 26 #[.int .i64 x, .int .i64 y, .int .i64 w, .int .i64 h, .slice (some ⟨b2, o2, none⟩) n c2] := by rw [hwb]; exact Bx.alloc (Bx.alloc (Bx.at _ (by simp)) _) _
  obtain ⟨T2, x2'⟩ : ∃ T, Bx wb (W.heap.size + 1 + 1) T #[.float .f32 t] := by rw [hwb]; exact ⟨_, Bx.alloc (Bx.at _ (by simp)) _⟩
  have x3' : Bx wb (W.heap.size + 1 + 1 + 1) 26 #[.int .i64 0, .int .i64 0, .int .i64 0, .int .i64 0, .slice none 0 0] := by rw [hwb]; exact Bx.at _ (by simp)
  have B1 : Below W.heap.size W wb := by rw [hwb]; exact bnew (bnew (bnew (bnew (Below.refl _ W))))
  clear hwb
  obtain ⟨q0, f0, l0⟩ := x0.all
  obtain ⟨q1, f1, l1⟩ := x1.all
  obtain ⟨q2, f2, l2⟩ := x2'.all
  obtain ⟨q3, f3, l3⟩ := x3'.all
  have r1' := r1.keep B1
  have r2' := r2.keep B1
  clear r1 r2
  go_wp2_with fail
  refine (ref_both x y w h x y w h M n b1 o1 c b2 o2 c2 xs ys _ _ _ _ hM1 hM2 HH.out.1 hnc HH.out.2.1 HH.out.2.2 r1' r2' (rmix_pairs n t _ _ xs ys _ x2')).mono ?_
  rintro e wv ⟨g, k, rfl, hgk, hg, hrd, hb2⟩
  have z3 := x3'.keep hb2
  have B3 := bcall B1 hb2
  have hs1 := B1.size
  have hgn : g ≠ W.heap.size + 1 + 1 + 1 := by omega
  have hge : W.heap.size ≤ g := by omega
  clear q0 f0 l0 q1 f1 l1 q2 f2 l2 q3 f3 l3 x0 x1 x2' x3' hb2 hg r1' r2' B1 hs1
  obtain ⟨q3, f3, l3⟩ := z3.all
  go_wp2_with fail
  refine bodyPost_ret (v := .tuple #[.agg #[.int .i64 x, .int .i64 y, .int .i64 w, .int .i64 h, .slice (some ⟨g, 0, none⟩) n k], .int .i64 0]) (by simp [results, Try.results42, go_sem, q3]) rfl ⟨g, k, rfl, hgk, hge, ?_, ?_⟩
  · exact Only.rd (b := W.heap.size + 1 + 1 + 1) ((((((Only.refl _ _).set _ _).set _ _).set _ _).set _ _).set _ _) hgn hrd
  · exact bput (by omega) (bput (by omega) (bput (by omega) (bput (by omega) (bput (by omega) B3))))

set_option maxRecDepth 100000 in
set_option maxHeartbeats 2000000 in
theorem ref_Through_ok (x y w h : Int) (b1 o1 c b2 o2 c2 b3 o3 c3 n M : Nat) (xs ys ms : List Nat) (W : World) (hM1 : 0 < M) (hM2 : M ≤ 65536) (hN : n = 4 * M) (hnc : n ≤ c) (hxs : xs.length = n) (hys : ys.length = n) (r1 : Rd W b1 o1 xs) (r2 : Rd W b2 o2 ys) (hms : ms.length = M) (r3 : Rd W b3 o3 ms) :
    Calls Try.prog 46 #[.agg #[.int .i64 x, .int .i64 y, .int .i64 w, .int .i64 h, .slice (some ⟨b1, o1, none⟩) n c], .agg #[.int .i64 x, .int .i64 y, .int .i64 w, .int .i64 h, .slice (some ⟨b2, o2, none⟩) n c2], .agg #[.int .i64 x, .int .i64 y, .int .i64 w, .int .i64 h, .slice (some ⟨b3, o3, none⟩) M c3]] W fun e w' =>
      ∃ g k, e = .returned (.tuple #[.agg #[.int .i64 x, .int .i64 y, .int .i64 w, .int .i64 h, .slice (some ⟨g, 0, none⟩) n k], .int .i64 0]) ∧ n ≤ k ∧ W.heap.size ≤ g ∧ Rd w' g 0 ((List.range n).map fun k => canon (thrV xs ys ms k)) ∧ Below W.heap.size W w' := by
  have HH := Lib.hid (And.intro hN (And.intro hxs (And.intro hys hms)))
  clear hN hxs hys hms
  go_enter Try.func46, Try.ntmps46
  go_upto_region 1 with fail
  refine name_world ?_
  intro wb hwb
  have x0 : Bx wb W.heap.size 26 #[.int .i64 x, .int .i64 y, .int .i64 w, .int .i64 h, .slice (some ⟨b1, o1, none⟩) n c] := by rw [hwb]; exact Bx.alloc (Bx.alloc (Bx.alloc (Bx.new _ _ _) _) _) _
  have x1 : Bx wb (W.heap.size + 1) 26 #[.int .i64 x, .int .i64 y, .int .i64 w, .int .i64 h, .slice (some ⟨b2, o2, none⟩) n c2] := by rw [hwb]; exact Bx.alloc (Bx.alloc (Bx.at _ (by simp)) _) _
  have x2' : Bx wb (W.heap.size + 1 + 1) 62 #[.int .i64 x, .int .i64 y, .int .i64 w, .int .i64 h, .slice (some ⟨b3, o3, none⟩) M c3] := by rw [hwb]; exact Bx.alloc (Bx.at _ (by simp)) _
  have x3' : Bx wb (W.heap.size + 1 + 1 + 1) 26 #[.int .i64 0, .int .i64 0, .int .i64 0, .int .i64 0, .slice none 0 0] := by rw [hwb]; exact Bx.at _ (by simp)
  have B1 : Below W.heap.size W wb := by rw [hwb]; exact bnew (bnew (bnew (bnew (Below.refl _ W))))
  clear hwb
  obtain ⟨q0, f0, l0⟩ := x0.all
  obtain ⟨q1, f1, l1⟩ := x1.all
  obtain ⟨q2, f2, l2⟩ := x2'.all
  obtain ⟨q3, f3, l3⟩ := x3'.all
  have r1' := r1.keep B1
  have r2' := r2.keep B1
  have r3' := r3.keep B1
  clear r1 r2 r3
  go_wp2_with fail
  refine (ref_both x y w h x y w h M n b1 o1 c b2 o2 c2 xs ys _ _ _ _ hM1 hM2 HH.out.1 hnc HH.out.2.1 HH.out.2.2.1 r1' r2' (rthr_pairs x y w h n M b3 o3 c3 _ xs ys ms _ HH.out.1 hM2 HH.out.2.2.2 r3' x2')).mono ?_
  rintro e wv ⟨g, k, rfl, hgk, hg, hrd, hb2⟩
  have z3 := x3'.keep hb2
  have B3 := bcall B1 hb2
  have hs1 := B1.size
  have hgn : g ≠ W.heap.size + 1 + 1 + 1 := by omega
  have hge : W.heap.size ≤ g := by omega
  clear q0 f0 l0 q1 f1 l1 q2 f2 l2 q3 f3 l3 x0 x1 x2' x3' hb2 hg r1' r2' r3' B1 hs1
  obtain ⟨q3, f3, l3⟩ := z3.all
  go_wp2_with fail
  refine bodyPost_ret (v := .tuple #[.agg #[.int .i64 x, .int .i64 y, .int .i64 w, .int .i64 h, .slice (some ⟨g, 0, none⟩) n k], .int .i64 0]) (by simp [results, Try.results46, go_sem, q3]) rfl ⟨g, k, rfl, hgk, hge, ?_, ?_⟩
  · exact Only.rd (b := W.heap.size + 1 + 1 + 1) ((((((Only.refl _ _).set _ _).set _ _).set _ _).set _ _).set _ _) hgn hrd
  · exact bput (by omega) (bput (by omega) (bput (by omega) (bput (by omega) (bput (by omega) B3))))

set_option maxRecDepth 100000 in
set_option maxHeartbeats 2000000 in
theorem law_alike_err (k : Int) (hk : k ≠ 0) (W : World) :
    Calls Try.prog 43 #[.agg #[.int .i64 0, .int .i64 0, .int .i64 0, .int .i64 0, .slice none 0 0], .int .i64 k, .agg #[.int .i64 0, .int .i64 0, .int .i64 0, .int .i64 0, .slice none 0 0], .int .i64 k] W fun e w' => e = .returned (.bool true) ∧ Below W.heap.size W w' := by
  have hb : (k == 0) = false := by simpa using hk
  go_enter Try.func43, Try.ntmps43
  go_wp2_with fail
  go_ret
  exact ⟨rfl, bnew (bnew (Below.refl _ W))⟩

set_option maxRecDepth 100000 in
set_option maxHeartbeats 2000000 in
theorem law_alike_ok (x y w h : Int) (b1 o1 c1 b2 o2 c2 n : Nat) (xs : List Nat) (W : World) (hn : n ≤ 1000000) (hxs : xs.length = n) (r1 : Rd W b1 o1 xs) (r2 : Rd W b2 o2 xs) :
    Calls Try.prog 43 #[.agg #[.int .i64 x, .int .i64 y, .int .i64 w, .int .i64 h, .slice (some ⟨b1, o1, none⟩) n c1], .int .i64 0, .agg #[.int .i64 x, .int .i64 y, .int .i64 w, .int .i64 h, .slice (some ⟨b2, o2, none⟩) n c2], .int .i64 0] W fun e w' => e = .returned (.bool true) ∧ Below W.heap.size W w' := by
  go_enter Try.func43, Try.ntmps43
  go_wp2_with fail
  have B1 : Below W.heap.size W _ := bnew (ob := .cells #[.int .i64 x, .int .i64 y, .int .i64 w, .int .i64 h, .slice (some ⟨b2, o2, none⟩) n c2] 26) (bnew (ob := .cells #[.int .i64 x, .int .i64 y, .int .i64 w, .int .i64 h, .slice (some ⟨b1, o1, none⟩) n c1] 26) (Below.refl _ W))
  refine (ref_SameFrame _ _ _ _ _ _ _ _ _ _ _ xs _ hn hxs (r1.keep B1) (r2.keep B1)).mono ?_
  rintro e w1 ⟨rfl, hb1⟩
  go_wp2_with fail
  go_ret
  exact ⟨rfl, bcall B1 hb1⟩
end Go.Proofs.Ytoffnmpnhddaiaa
