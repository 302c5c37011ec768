/- frame.Same, has, offset, Take, Fill, Clean; dyeref1.Same. -/
import Derived.Test.YtjicgbpnplmpbaaDoorEch
import Derived.Test.YtjicgbpnplmpbaaDoorChg
import Derived.Test.YtjicgbpnplmpbaaDoorReg
import Derived.Test.YtjicgbpnplmpbaaDoorTail
namespace Go.Proofs.YtjicgbpnplmpbaaDoor
open Go.RowKit

/-- All singles have the same bits. -/
def allSame (n : Nat) (xs ys : List Nat) : Bool := (List.range n).all fun k => canon (xs.getD k 0) == canon (ys.getD k 0)
theorem allSame_of {n : Nat} {xs ys : List Nat} (h : ∀ k, k < n → canon (xs.getD k 0) = canon (ys.getD k 0)) : allSame n xs ys = true := by
  unfold allSame
  rw [List.all_eq_true]
  intro k hk
  rw [h k (List.mem_range.1 hk)]
  simp
theorem allSame_not {n k : Nat} {xs ys : List Nat} (hk : k < n) (h : ¬ canon (xs.getD k 0) = canon (ys.getD k 0)) : allSame n xs ys = false := by
  unfold allSame
  rw [List.all_eq_false]
  exact ⟨k, List.mem_range.2 hk, by simpa using h⟩

theorem num_Bits_at (b k : Nat) (hv : canon b = k) (w : World) : Calls Tryd.prog 34 #[.float .f32 b] w fun e w' => e = .returned (.int .u32 k) ∧ w = w' := by
  subst hv
  exact num_Bits b w
set_option maxRecDepth 100000 in
set_option maxHeartbeats 1000000 in
theorem frame_Same_in (x y w h : Int) (b1 o1 c1 b2 o2 c2 n : Nat) (xs ys : List Nat) (W : World) (hn : n ≤ 1000000) (hxs : xs.length = n) (hys : ys.length = n) (h1 : Rd W b1 o1 xs) (h2 : Rd W b2 o2 ys) :
    Calls Tryd.prog 18 #[.agg #[.int .i64 x, .int .i64 y, .int .i64 w, .int .i64 h, .slice (some ⟨b1, o1, none⟩) n c1], .agg #[.int .i64 x, .int .i64 y, .int .i64 w, .int .i64 h, .slice (some ⟨b2, o2, none⟩) n c2]] W fun e w' =>
      e = .returned (.bool (allSame n xs ys)) ∧ Below W.heap.size W w' := by
  have Hxs := Lib.hid (And.intro hxs hys)
  clear hxs hys
  go_enter Tryd.func18, Tryd.ntmps18
  go_wp2_with fail
  refine name_world ?_
  intro wb hwb
  have x0 : Bx wb W.heap.size 26 #[.int .i64 x, .int .i64 y, .int .i64 w, .int .i64 h, .slice (some ⟨b1, o1, none⟩) n c1] := by rw [hwb]; exact Bx.alloc (Bx.new _ _ _) _
  have x1 : Bx wb (W.heap.size + 1) 26 #[.int .i64 x, .int .i64 y, .int .i64 w, .int .i64 h, .slice (some ⟨b2, o2, none⟩) n c2] := by rw [hwb]; exact Bx.at _ (by simp)
  have B1 : Below W.heap.size W wb := by rw [hwb]; exact bnew (bnew (Below.refl _ W))
  clear hwb
  have r1 := h1.keep B1
  have r2 := h2.keep B1
  clear h1 h2
  obtain ⟨q0, f0, l0⟩ := x0.all
  obtain ⟨q1, f1, l1⟩ := x1.all
  go_wp2_with fail
  clear q0 f0 l0 q1 f1 l1
  go_loopw [23] (fun s wr => ∃ k : Nat, k ≤ n ∧ s = .int .i64 k ∧ Below wb.heap.size wb wr ∧ Hid (∀ j, j < k → canon (xs.getD j 0) = canon (ys.getD j 0))) (fun s _ => n - (intOf s).toNat)
  case atStart => exact ⟨0, by omega, rfl, Below.refl _ _, Lib.hid fun j hj => by omega⟩
  case round =>
    obtain ⟨k, hk, rfl, hbl, hall⟩ := hrel
    have z0 := x0.keep hbl
    have z1 := x1.keep hbl
    have s1 := r1.keep hbl
    have s2 := r2.keep hbl
    obtain ⟨q0, f0, l0⟩ := z0.all
    obtain ⟨q1, f1, l1⟩ := z1.all
    by_cases hlt : k < n
    · have hc1 := s1.cell k (by rw [Hxs.out.1]; exact hlt)
      have hc2 := s2.cell k (by rw [Hxs.out.2]; exact hlt)
      have m1 := s1.lt
      have m2 := s2.lt
      have hki : (k : Int) < (n : Int) := by omega
      by_cases hcc : canon (xs.getD k 0) = canon (ys.getD k 0)
      · have hnext : Hid (∀ j, j < k + 1 → canon (xs.getD j 0) = canon (ys.getD j 0)) := Lib.hid fun j hj => by
          rcases Nat.lt_or_ge j k with h | h
          · exact hall.out j h
          · have : j = k := by omega
            rw [this]; exact hcc
        obtain ⟨ca, hca⟩ : ∃ ca, canon (xs.getD k 0) = ca := ⟨_, rfl⟩
        obtain ⟨cb, hcb⟩ : ∃ cb, canon (ys.getD k 0) = cb := ⟨_, rfl⟩
        rw [hca, hcb] at hcc
        have Hca := Lib.hid hca
        have Hcb := Lib.hid hcb
        clear hca hcb
        obtain rfl : ca = cb := hcc
        clear hall
        go_wp2_with fail
        refine wp_region_all (fun z : BW wr.heap.size wr => z.w) (by kernel_rfl) (by kernel_rfl) (BW.start _ _) rfl ?_
        repeat (go_big_quiet_step (first
          | (go_at_call 34; exact BW.call_same _ (num_Bits_at _ _ Hca.out _))
          | (go_at_call 34; exact BW.call_same _ (num_Bits_at _ _ Hcb.out _))))
        refine wpQuiet_nil ?_
        intro z
        go_wp2_with fail
        go_roundw
        case rel => exact ⟨k + 1, by omega, by go_num, hbl.trans (z.below.mono hbl.size), hnext⟩
        case measure => simp [intOf]; omega
      · have hres := allSame_not hlt hcc
        have Hres := Lib.hid hres
        obtain ⟨ca, hca⟩ : ∃ ca, canon (xs.getD k 0) = ca := ⟨_, rfl⟩
        obtain ⟨cb, hcb⟩ : ∃ cb, canon (ys.getD k 0) = cb := ⟨_, rfl⟩
        rw [hca, hcb] at hcc
        have Hca := Lib.hid hca
        have Hcb := Lib.hid hcb
        clear hca hcb
        have hcn : ¬ ((ca : Int) = (cb : Int)) := by omega
        clear hcc hall hres
        go_wp2_with fail
        refine wp_region_all (fun z : BW wr.heap.size wr => z.w) (by kernel_rfl) (by kernel_rfl) (BW.start _ _) rfl ?_
        repeat (go_big_quiet_step (first
          | (go_at_call 34; exact BW.call_same _ (num_Bits_at _ _ Hca.out _))
          | (go_at_call 34; exact BW.call_same _ (num_Bits_at _ _ Hcb.out _))))
        refine wpQuiet_nil ?_
        intro z
        go_wp2_with fail
        go_ret
        exact ⟨ret_bool Hres.out.symm, B1.trans ((hbl.trans (z.below.mono hbl.size)).mono B1.size)⟩
    · have hkn : k = n := by omega
      subst hkn
      have Hres := Lib.hid (allSame_of hall.out)
      go_wp2_with fail
      go_ret
      exact ⟨ret_bool Hres.out.symm, B1.trans (hbl.mono B1.size)⟩

set_option maxRecDepth 100000 in
set_option maxHeartbeats 1000000 in
theorem frame_Same_off (x y w h x2 y2 w2 h2 : Int) (a1 a2 : Option Addr) (n1 c1 n2 c2 : Nat) (W : World) (hne : ¬ ((x = x2 ∧ y = y2 ∧ w = w2 ∧ h = h2) ∧ n1 = n2)) :
    Calls Tryd.prog 18 #[.agg #[.int .i64 x, .int .i64 y, .int .i64 w, .int .i64 h, .slice a1 n1 c1], .agg #[.int .i64 x2, .int .i64 y2, .int .i64 w2, .int .i64 h2, .slice a2 n2 c2]] W fun e w' =>
      e = .returned (.bool false) ∧ Below W.heap.size W w' := by
  have hd : (¬ x = x2) ∨ (¬ y = y2) ∨ (¬ w = w2) ∨ (¬ h = h2) ∨ (x = x2 ∧ y = y2 ∧ w = w2 ∧ h = h2 ∧ ¬ ((n1 : Int) = (n2 : Int))) := by omega
  clear hne
  rcases hd with hd | hd | hd | hd | ⟨rfl, rfl, rfl, rfl, hd⟩
  all_goals
    go_enter Tryd.func18, Tryd.ntmps18
    go_wp2_with fail
  all_goals
    go_ret
    exact ⟨rfl, bnew (bnew (Below.refl _ W))⟩

end Go.Proofs.YtjicgbpnplmpbaaDoor
