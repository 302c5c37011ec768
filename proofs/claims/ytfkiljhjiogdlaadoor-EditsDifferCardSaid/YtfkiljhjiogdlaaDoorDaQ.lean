/- conform.Compare of wrong lists. (printed by gen_daq.py) -/
import Derived.Test.YtfkiljhjiogdlaaDoorDaP
namespace Go.Proofs.YtfkiljhjiogdlaaDoor
open Go.RowKit

set_option maxRecDepth 100000 in
set_option maxHeartbeats 8000000 in
theorem conform_Compare_e1 (ta tb : ByteArray) (ra rb : Int) (va vb : Value) (ea eb : List Ev) (W : World) (ha : SlE W va ea) (hb : SlE W vb eb) (oka : editsErr ta ra ea ≠ 0) :
    Calls Tryd.prog 6 #[.agg #[.string ta, .int .i64 ra, va], .agg #[.string tb, .int .i64 rb, vb]] W fun e w' => e = .returned (.tuple #[.slice none 0 0, .int .i64 (editsErr ta ra ea)]) ∧ Below W.heap.size W w' := by
  have HA := Lib.hid ha
  have HB := Lib.hid hb
  have Ka : Hid (∀ w, SlE w va ea → Calls Tryd.prog 15 #[.agg #[.string ta, .int .i64 ra, va]] w fun e w' => e = .returned (.int .i64 (editsErr ta ra ea)) ∧ Below w.heap.size w w') := Lib.hid fun w h => by exact conform_CheckList ta ra va ea w h
  have Kb : Hid (∀ w, SlE w vb eb → Calls Tryd.prog 15 #[.agg #[.string tb, .int .i64 rb, vb]] w fun e w' => e = .returned (.int .i64 (editsErr tb rb eb)) ∧ Below w.heap.size w w') := Lib.hid fun w h => conform_CheckList tb rb vb eb w h
  have hne : ((editsErr ta ra ea) != 0) = true := by simpa using oka
  generalize editsErr ta ra ea = er at *
  clear oka 
  obtain ⟨aa, ca, rfl, hma, hfa⟩ := ha
  obtain ⟨ab, cb, rfl, hmb, hfb⟩ := hb
  clear hma hmb hfa hfb
  obtain ⟨na, hna⟩ : ∃ n, n = ea.length := ⟨_, rfl⟩
  obtain ⟨nb, hnb⟩ : ∃ n, n = eb.length := ⟨_, rfl⟩
  rw [← hna] at HA Ka ⊢
  rw [← hnb] at HB Kb ⊢
  clear hna hnb
  go_enter Tryd.func6, Tryd.ntmps6
  go_upto_region 2 with fail
  refine name_world ?_
  intro w0 hw0
  have x2 : Bx w0 W.heap.size 24 #[.string ta, .int .i64 ra, .slice aa na ca] := by rw [hw0]; exact (Bx.new _ _ _).alloc _
  have x3 : Bx w0 (W.heap.size + 1) 24 #[.string tb, .int .i64 rb, .slice ab nb cb] := by rw [hw0]; exact Bx.at _ (by simp)
  have B : Below W.heap.size W w0 := by rw [hw0]; exact bnew (bnew (Below.refl _ W))
  clear hw0
  obtain ⟨q2, f2, l2⟩ := x2.all
  obtain ⟨q3, f3, l3⟩ := x3.all
  have ix0 := run_index0 ta tb ra rb aa ab na nb ca cb
  have ix1 := run_index1 ta tb ra rb aa ab na nb ca cb
  refine wp_loop_rounds 3 ?_
  rw [rounds_succ]
  go_wp2_with fail
  refine nm_call ?_
  intro w1 hw1
  have hb1 := below_eq hw1
  clear hw1 q2 f2 l2 q3 f3 l3
  replace B := bcall B hb1
  clear hb1
  refine (Ka.out _ (HA.out.keep B)).mono ?_
  rintro e w2 ⟨rfl, hb2⟩
  replace B := bcall B hb2
  clear hb2 x2 x3
  go_wp2_with fail
  go_ret2
  exact ⟨rfl, B⟩

set_option maxRecDepth 100000 in
set_option maxHeartbeats 8000000 in
theorem conform_Compare_e2 (ta tb : ByteArray) (ra rb : Int) (va vb : Value) (ea eb : List Ev) (W : World) (ha : SlE W va ea) (hb : SlE W vb eb) (oka : editsErr ta ra ea = 0) (okb : editsErr tb rb eb ≠ 0) :
    Calls Tryd.prog 6 #[.agg #[.string ta, .int .i64 ra, va], .agg #[.string tb, .int .i64 rb, vb]] W fun e w' => e = .returned (.tuple #[.slice none 0 0, .int .i64 (editsErr tb rb eb)]) ∧ Below W.heap.size W w' := by
  have HA := Lib.hid ha
  have HB := Lib.hid hb
  have Ka : Hid (∀ w, SlE w va ea → Calls Tryd.prog 15 #[.agg #[.string ta, .int .i64 ra, va]] w fun e w' => e = .returned (.int .i64 0) ∧ Below w.heap.size w w') := Lib.hid fun w h => by rw [← oka]; exact conform_CheckList ta ra va ea w h
  have Kb : Hid (∀ w, SlE w vb eb → Calls Tryd.prog 15 #[.agg #[.string tb, .int .i64 rb, vb]] w fun e w' => e = .returned (.int .i64 (editsErr tb rb eb)) ∧ Below w.heap.size w w') := Lib.hid fun w h => conform_CheckList tb rb vb eb w h
  have hne : ((editsErr tb rb eb) != 0) = true := by simpa using okb
  generalize editsErr tb rb eb = er at *
  clear oka okb
  obtain ⟨aa, ca, rfl, hma, hfa⟩ := ha
  obtain ⟨ab, cb, rfl, hmb, hfb⟩ := hb
  clear hma hmb hfa hfb
  obtain ⟨na, hna⟩ : ∃ n, n = ea.length := ⟨_, rfl⟩
  obtain ⟨nb, hnb⟩ : ∃ n, n = eb.length := ⟨_, rfl⟩
  rw [← hna] at HA Ka ⊢
  rw [← hnb] at HB Kb ⊢
  clear hna hnb
  go_enter Tryd.func6, Tryd.ntmps6
  go_upto_region 2 with fail
  refine name_world ?_
  intro w0 hw0
  have x2 : Bx w0 W.heap.size 24 #[.string ta, .int .i64 ra, .slice aa na ca] := by rw [hw0]; exact (Bx.new _ _ _).alloc _
  have x3 : Bx w0 (W.heap.size + 1) 24 #[.string tb, .int .i64 rb, .slice ab nb cb] := by rw [hw0]; exact Bx.at _ (by simp)
  have B : Below W.heap.size W w0 := by rw [hw0]; exact bnew (bnew (Below.refl _ W))
  clear hw0
  obtain ⟨q2, f2, l2⟩ := x2.all
  obtain ⟨q3, f3, l3⟩ := x3.all
  have ix0 := run_index0 ta tb ra rb aa ab na nb ca cb
  have ix1 := run_index1 ta tb ra rb aa ab na nb ca cb
  refine wp_loop_rounds 3 ?_
  rw [rounds_succ]
  go_wp2_with fail
  refine nm_call ?_
  intro w1 hw1
  have hb1 := below_eq hw1
  clear hw1 q2 f2 l2 q3 f3 l3
  replace B := bcall B hb1
  clear hb1
  refine (Ka.out _ (HA.out.keep B)).mono ?_
  rintro e w2 ⟨rfl, hb2⟩
  replace B := bcall B hb2
  clear hb2 x2 x3
  go_wp2_with fail
  rw [rounds_succ]
  go_wp2_with fail
  refine nm_call ?_
  intro w3 hw3
  have hb3 := below_eq hw3
  clear hw3
  replace B := bcall B hb3
  clear hb3
  refine (Kb.out _ (HB.out.keep B)).mono ?_
  rintro e w4 ⟨rfl, hb4⟩
  replace B := bcall B hb4
  clear hb4 Ka Kb
  go_wp2_with fail
  go_ret2
  exact ⟨rfl, B⟩
end Go.Proofs.YtfkiljhjiogdlaaDoor
