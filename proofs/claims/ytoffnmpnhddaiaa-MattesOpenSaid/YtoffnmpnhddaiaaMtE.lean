/- key.around where nothing is left. -/
import Derived.Test.YtoffnmpnhddaiaaMtI
namespace Go.Proofs.Ytoffnmpnhddaiaa
open Go.RowKit

theorem name_post {P : Program} {f : Func} {Q : Ending → World → Prop} {e : Exit} {a : Act} {w0 : World} (h : ∀ wb, wb = w0 → bodyPost P f Q e a wb) : bodyPost P f Q e a w0 := h _ rfl
set_option maxRecDepth 100000 in
set_option maxHeartbeats 2000000 in
theorem key_around_empty (x y : Int) (w h r M b c : Nat) (cf : FuncId) (W : World) (hck : checkMatte x y w h M = 0) (hr : r ≤ 16) (hx1 : -2000 ≤ x) (hx2 : x ≤ 2000) (hy1 : -2000 ≤ y) (hy2 : y ≤ 2000) (hw : w ≤ 256) (hh : h ≤ 256) (he : w ≤ 2 * r ∨ h ≤ 2 * r) :
    Calls Try.prog 110 #[.agg #[.int .i64 x, .int .i64 y, .int .i64 w, .int .i64 h, .slice (some ⟨b, 0, none⟩) M c], .int .i64 r, .func (.func cf) #[] #[]] W fun e w' =>
      e = .returned (.tuple #[.agg #[.int .i64 0, .int .i64 0, .int .i64 0, .int .i64 0, .slice none 0 0], .int .i64 10]) ∧ Below W.heap.size W w' := by
  go_enter Try.func110, Try.ntmps110
  go_wp2_with fail
  refine (key_CheckMatte _ _ _ _ _ _ _ _).mono ?_
  rw [hck]
  rintro e w1 ⟨rfl, hb1⟩
  have x0 := ((Bx.new W _ _).alloc _).keep hb1
  have x2 := (Bx.at (w := W.alloc (.cells #[.int .i64 x, .int .i64 y, .int .i64 w, .int .i64 h, .slice (some ⟨b, 0, none⟩) M c] 62)) (T := 62) (cs := #[.int .i64 0, .int .i64 0, .int .i64 0, .int .i64 0, .slice none 0 0]) (W.heap.size + 1) (by simp)).keep hb1
  have B1 := bcall (bnew (bnew (Below.refl _ W))) hb1
  clear hb1 hck
  obtain ⟨q0, f0, l0⟩ := x0.all
  obtain ⟨q2, f2, l2⟩ := x2.all
  have hr0 : decide ((r : Int) < 0) = false := by simp
  have hr1 : decide (16 < (r : Int)) = false := by simp; omega
  have fin : ∀ wz : World, wz = ((((((w1.setCell ⟨W.heap.size + 1, 0, none⟩ (.int .i64 0)).setCell ⟨W.heap.size + 1, 1, none⟩ (.int .i64 0)).setCell ⟨W.heap.size + 1, 2, none⟩ (.int .i64 0)).setCell ⟨W.heap.size + 1, 3, none⟩ (.int .i64 0)).setCell ⟨W.heap.size + 1, 4, none⟩ (.slice none 0 0)).alloc
      (.cells #[.int .i64 (x + r), .int .i64 (y + r), .int .i64 (w - 2 * r), .int .i64 (h - 2 * r)] 23)) → (∀ o, wz.cell? ⟨W.heap.size + 1, o, none⟩ = #[.int .i64 0, .int .i64 0, .int .i64 0, .int .i64 0, .slice none 0 0][o]?) ∧ Below W.heap.size W wz := by
    rintro wz rfl
    exact ⟨((set5 x2 _ _ _ _ _).1.alloc _).all.1, bnew (bput (by omega) (bput (by omega) (bput (by omega) (bput (by omega) (bput (by omega) B1)))))⟩
  have Fin_ := Lib.hid fin
  clear fin
  by_cases hw2 : w ≤ 2 * r
  · have hd : decide ((w : Int) - 2 * (r : Int) < 1) = true := by simp; omega
    go_wp2_with fail
    refine name_post ?_
    intro wz hwz
    obtain ⟨g0, B2⟩ := Fin_.out wz hwz
    clear hwz
    exact bodyPost_ret (v := .tuple #[.agg #[.int .i64 0, .int .i64 0, .int .i64 0, .int .i64 0, .slice none 0 0], .int .i64 10]) (by simp [results, Try.results110, go_sem, g0]) rfl ⟨rfl, B2⟩
  · have hd : decide ((w : Int) - 2 * (r : Int) < 1) = false := by simp; omega
    have hd2 : decide ((h : Int) - 2 * (r : Int) < 1) = true := by simp; omega
    go_wp2_with fail
    refine name_post ?_
    intro wz hwz
    obtain ⟨g0, B2⟩ := Fin_.out wz hwz
    clear hwz
    exact bodyPost_ret (v := .tuple #[.agg #[.int .i64 0, .int .i64 0, .int .i64 0, .int .i64 0, .slice none 0 0], .int .i64 10]) (by simp [results, Try.results110, go_sem, g0]) rfl ⟨rfl, B2⟩
end Go.Proofs.Ytoffnmpnhddaiaa
