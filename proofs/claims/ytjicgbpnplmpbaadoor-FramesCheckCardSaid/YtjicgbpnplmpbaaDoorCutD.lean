/- frame.At. -/
import Derived.Test.YtjicgbpnplmpbaaDoorCutC
import Derived.Test.YtjicgbpnplmpbaaDoorSum
import Derived.Test.YtjicgbpnplmpbaaDoorRel
import Derived.Test.YtjicgbpnplmpbaaDoorLate
namespace Go.Proofs.YtjicgbpnplmpbaaDoor
open Go.RowKit

/-- Four singles, of which the first k are clean. -/
def clA (V : Nat → Nat) (k : Nat) : Array Value := ((List.range 4).map fun j => if j < k then Value.float .f32 (canon (V j)) else .float .f32 (V j)).toArray
theorem clA_at (V : Nat → Nat) (k : Nat) (hk : k < 4) : (clA V k)[k]? = some (.float .f32 (V k)) := by
  unfold clA
  simp [hk]
theorem clA_set (V : Nat → Nat) (k : Nat) (hk : k < 4) : (clA V k).setIfInBounds k (.float .f32 (canon (V k))) = clA V (k + 1) := by
  match k, hk with
  | 0, _ | 1, _ | 2, _ | 3, _ => rfl

set_option maxRecDepth 100000 in
set_option maxHeartbeats 2000000 in
theorem frame_At_bad (x y w h k u v : Int) (a : Option Addr) (n c : Nat) (W : World) (hn : n ≤ maxLen) (hc : checkFrame x y w h n = k) (hk : k ≠ 0) :
    Calls Tryd.prog 13 #[.agg #[.int .i64 x, .int .i64 y, .int .i64 w, .int .i64 h, .slice a n c], .int .i64 u, .int .i64 v] W fun e w' => e = .returned (.tuple #[.agg #[.float .f32 0, .float .f32 0, .float .f32 0, .float .f32 0], .int .i64 k]) ∧ Below W.heap.size W w' := by
  go_enter Tryd.func13, Tryd.ntmps13
  go_wp2_with fail
  refine nm_call ?_
  intro wb hwb
  have x0 : Bx wb (W.heap.size) 26 #[.int .i64 x, .int .i64 y, .int .i64 w, .int .i64 h, .slice a n c] := by rw [hwb]; exact Bx.alloc (Bx.new _ _ _) _
  have x1 : Bx wb (W.heap.size + 1) 32 #[.float .f32 0, .float .f32 0, .float .f32 0, .float .f32 0] := by rw [hwb]; exact Bx.at _ (by simp)
  have B1 : Below W.heap.size W wb := by rw [hwb]; exact bnew (bnew (Below.refl _ W))
  clear hwb
  refine (frame_Check _ _ _ _ _ _ _ _ hn).mono ?_
  rw [hc]
  rintro e w1 ⟨rfl, hb⟩
  replace x0 := x0.keep hb
  replace x1 := x1.keep hb
  have B2 := bcall B1 hb
  clear hb hc B1
  obtain ⟨q0, f0, l0⟩ := x0.all
  obtain ⟨q1, f1, l1⟩ := x1.all
  go_wp2_with fail
  refine bodyPost_ret (v := .tuple #[.agg #[.float .f32 0, .float .f32 0, .float .f32 0, .float .f32 0], .int .i64 k]) (by simp [results, Tryd.results13, go_sem, q1]) rfl ⟨rfl, ?_⟩
  exact bput (by omega) (bput (by omega) (bput (by omega) (bput (by omega) B2)))

set_option maxRecDepth 100000 in
set_option maxHeartbeats 2000000 in
theorem frame_At_out (x y w h u v : Int) (a : Option Addr) (n c : Nat) (W : World) (hn : n ≤ maxLen) (hc : checkFrame x y w h n = 0) (hr : checkRegion x y w h = 0) (hh : hasB x y w h u v = false) :
    Calls Tryd.prog 13 #[.agg #[.int .i64 x, .int .i64 y, .int .i64 w, .int .i64 h, .slice a n c], .int .i64 u, .int .i64 v] W fun e w' => e = .returned (.tuple #[.agg #[.float .f32 0, .float .f32 0, .float .f32 0, .float .f32 0], .int .i64 5]) ∧ Below W.heap.size W w' := by
  obtain ⟨a1, a2, a3, a4, _, a6, a7, a8, a9⟩ := checkRegion_zero hr
  go_enter Tryd.func13, Tryd.ntmps13
  go_wp2_with fail
  refine nm_call ?_
  intro wb hwb
  have x0 : Bx wb (W.heap.size) 26 #[.int .i64 x, .int .i64 y, .int .i64 w, .int .i64 h, .slice a n c] := by rw [hwb]; exact Bx.alloc (Bx.new _ _ _) _
  have x1 : Bx wb (W.heap.size + 1) 32 #[.float .f32 0, .float .f32 0, .float .f32 0, .float .f32 0] := by rw [hwb]; exact Bx.at _ (by simp)
  have B1 : Below W.heap.size W wb := by rw [hwb]; exact bnew (bnew (Below.refl _ W))
  clear hwb
  refine (frame_Check _ _ _ _ _ _ _ _ hn).mono ?_
  rw [hc]
  rintro e w1 ⟨rfl, hb⟩
  replace x0 := x0.keep hb
  replace x1 := x1.keep hb
  have B2 := bcall B1 hb
  clear hb hc B1 hr
  obtain ⟨q0, f0, l0⟩ := x0.all
  obtain ⟨q1, f1, l1⟩ := x1.all
  go_wp2_with fail
  refine (frame_has_at _ _ _ _ _ _ _ hh _ (by omega) (by omega) (by omega) (by omega) (by omega) (by omega) (by omega) (by omega)).mono ?_
  rintro e w2 ⟨rfl, hb⟩
  clear q0 f0 l0 q1 f1 l1
  replace x0 := x0.keep hb
  replace x1 := x1.keep hb
  have B3 := bcall B2 hb
  clear hb B2
  obtain ⟨q0, f0, l0⟩ := x0.all
  obtain ⟨q1, f1, l1⟩ := x1.all
  go_wp2_with fail
  refine bodyPost_ret (v := .tuple #[.agg #[.float .f32 0, .float .f32 0, .float .f32 0, .float .f32 0], .int .i64 5]) (by simp [results, Tryd.results13, go_sem, q1]) rfl ⟨rfl, ?_⟩
  exact bput (by omega) (bput (by omega) (bput (by omega) (bput (by omega) B3)))

set_option maxRecDepth 100000 in
set_option maxHeartbeats 2000000 in
theorem frame_At_in (x y : Int) (w h i j b o n c M : Nat) (xs : List Nat) (W : World) (hc : checkFrame x y w h n = 0) (hr : checkRegion x y w h = 0) (hM : M = w * h) (hN : n = 4 * M) (hnc : n ≤ c) (hi : i < w) (hj : j < h) (hxs : xs.length = n) (hrd : Rd W b o xs) :
    Calls Tryd.prog 13 #[.agg #[.int .i64 x, .int .i64 y, .int .i64 (w : Int), .int .i64 (h : Int), .slice (some ⟨b, o, none⟩) n c], .int .i64 (x + (i : Int)), .int .i64 (y + (j : Int))] W fun e w' =>
      e = .returned (.tuple #[.agg #[.float .f32 (canon (xs.getD (4 * (j * w + i) + 0) 0)), .float .f32 (canon (xs.getD (4 * (j * w + i) + 1) 0)), .float .f32 (canon (xs.getD (4 * (j * w + i) + 2) 0)), .float .f32 (canon (xs.getD (4 * (j * w + i) + 3) 0))], .int .i64 0]) ∧ Below W.heap.size W w' := by
  obtain ⟨a1, a2, a3, a4, a5, a6, a7, a8, a9⟩ := checkRegion_zero hr
  have hMi : (M : Int) = (w : Int) * (h : Int) := by rw [hM]; push_cast; rfl
  have hM2 : M ≤ 65536 := by rw [← hMi] at a5; omega
  have hn : n ≤ maxLen := by unfold maxLen; omega
  have hn2 : n ≤ 262144 := by omega
  have hjw : j * w + w ≤ h * w := by rw [← Nat.succ_mul]; exact Nat.mul_le_mul_right _ hj
  have hF4 : 4 * (j * w + i) + 4 ≤ n := by rw [hN, hM, Nat.mul_comm w h]; omega
  have hh : hasB x y w h (x + (i : Int)) (y + (j : Int)) = true := by
    unfold hasB
    simp only [Bool.and_eq_true, decide_eq_true_eq]
    omega
  have Hxs := Lib.hid hxs
  obtain ⟨P0, hP0⟩ : ∃ P0, 4 * (j * w + i) = P0 := ⟨_, rfl⟩
  have HP := Lib.hid hP0
  rw [hP0] at hF4 ⊢
  obtain ⟨v0, hv0⟩ : ∃ v0, xs.getD (P0 + 0) 0 = v0 := ⟨_, rfl⟩
  obtain ⟨v1, hv1⟩ : ∃ v1, xs.getD (P0 + 1) 0 = v1 := ⟨_, rfl⟩
  obtain ⟨v2, hv2⟩ : ∃ v2, xs.getD (P0 + 2) 0 = v2 := ⟨_, rfl⟩
  obtain ⟨v3, hv3⟩ : ∃ v3, xs.getD (P0 + 3) 0 = v3 := ⟨_, rfl⟩
  have hdr : ∀ k, (xs.drop P0).getD k 0 = xs.getD (P0 + k) 0 := fun k => by simp
  have Hv : Hid ((xs.drop P0).getD 0 0 = v0 ∧ (xs.drop P0).getD 1 0 = v1 ∧ (xs.drop P0).getD 2 0 = v2 ∧ (xs.drop P0).getD 3 0 = v3) := Lib.hid ⟨by rw [hdr]; exact hv0, by rw [hdr]; exact hv1, by rw [hdr]; exact hv2, by rw [hdr]; exact hv3⟩
  rw [hv0, hv1, hv2, hv3]
  clear hdr hv0 hv1 hv2 hv3
  clear hM hN hxs hMi a5 hjw hP0
  go_enter Tryd.func13, Tryd.ntmps13
  go_wp2_with fail
  refine nm_call ?_
  intro wb hwb
  have x0 : Bx wb (W.heap.size) 26 #[.int .i64 x, .int .i64 y, .int .i64 (w : Int), .int .i64 (h : Int), .slice (some ⟨b, o, none⟩) n c] := by rw [hwb]; exact Bx.alloc (Bx.new _ _ _) _
  have x1 : Bx wb (W.heap.size + 1) 32 #[.float .f32 0, .float .f32 0, .float .f32 0, .float .f32 0] := by rw [hwb]; exact Bx.at _ (by simp)
  have B1 : Below W.heap.size W wb := by rw [hwb]; exact bnew (bnew (Below.refl _ W))
  clear hwb
  refine (frame_Check _ _ _ _ _ _ _ _ hn).mono ?_
  rw [hc]
  rintro e w1 ⟨rfl, hb⟩
  replace x0 := x0.keep hb
  replace x1 := x1.keep hb
  have B2 := bcall B1 hb
  replace hrd := hrd.keep B2
  clear hb hc B1 hr
  obtain ⟨q0, f0, l0⟩ := x0.all
  obtain ⟨q1, f1, l1⟩ := x1.all
  go_wp2_with fail
  refine (frame_has_at _ _ _ _ _ _ _ hh _ (by omega) (by omega) (by omega) (by omega) (by omega) (by omega) (by omega) (by omega)).mono ?_
  rintro e w2 ⟨rfl, hb⟩
  clear q0 f0 l0 q1 f1 l1
  replace x0 := x0.keep hb
  replace x1 := x1.keep hb
  have B3 := bcall B2 hb
  replace hrd := hrd.keep hb
  clear hb B2 hh
  obtain ⟨q0, f0, l0⟩ := x0.all
  obtain ⟨q1, f1, l1⟩ := x1.all
  have hPn : ¬ (c = P0) := by omega
  have hPi : (P0 : Int) ≤ (n : Int) := by omega
  go_wp2_with fail
  refine wp_region_late 13 (fun q => q == 11) (fun q u w' => if q = 12 then ∃ g, u = .pointer (some ⟨g, 0, none⟩) ∧ w2.heap.size ≤ g ∧ Bx w' g 32 #[.float .f32 0, .float .f32 0, .float .f32 0, .float .f32 0] else u = [.pointer (some ⟨W.heap.size, 4, none⟩), .slice (some ⟨b, o, none⟩) n c, .pointer (some ⟨W.heap.size, 0, none⟩), .agg #[.int .i64 x, .int .i64 y, .int .i64 w, .int .i64 h], .int .i64 (x + (i : Int)), .int .i64 (y + (j : Int)), .int .i64 (P0 : Int), .slice (some ⟨b, o + P0, none⟩) (n - P0) (c - P0), .tuple #[.agg #[.float .f32 (v0), .float .f32 (v1), .float .f32 (v2), .float .f32 (v3)], .int .i64 0], .tuple #[.agg #[.float .f32 (v0), .float .f32 (v1), .float .f32 (v2), .float .f32 (v3)], .int .i64 0], .agg #[.float .f32 (v0), .float .f32 (v1), .float .f32 (v2), .float .f32 (v3)], .int .i64 0, undef].getD q undef) (fun _ => false) (fun w' => Below w2.heap.size w2 w') (by kernel_rfl) (by kernel_rfl) (fun _ _ _ _ _ h => h)
    (fun _ _ h e => e.trans (h.mono e.size)) (fun t u a' b' hb h => ?_) (Below.refl _ _).drew ?_ ?_ ?_
  · split
    · rename_i h4
      rw [if_pos h4] at h
      obtain ⟨g, e1, e2, e3⟩ := h
      exact ⟨g, e1, e2, e3.keep hb⟩
    · rename_i h4
      rw [if_neg h4] at h
      exact h
  · intro t op ht hlt hop
    simp only [Bool.or_eq_false_iff, beq_eq_false_iff_ne] at hlt
    rcases (by omega : t = 0 ∨ t = 1 ∨ t = 2 ∨ t = 3 ∨ t = 4 ∨ t = 5 ∨ t = 6 ∨ t = 7 ∨ t = 8 ∨ t = 9 ∨ t = 10 ∨ t = 12) with rfl | rfl | rfl | rfl | rfl | rfl | rfl | rfl | rfl | rfl | rfl | rfl
    all_goals simp only [List.getElem?_cons_zero, List.getElem?_cons_succ, Option.some.injEq] at hop
    all_goals subst hop
    all_goals intro a wx hE hag hdep
    · have e0 := slot_eq (hag 3 rfl)
      exact rel_pure _ rfl rfl (by simp [go_sem, e0])
    · have e0 := slot_eq (hdep ⟨0, .data⟩ (by simp) rfl)
      have hq := (x0.keep hE).all.1
      exact rel_pure _ rfl rfl (by simp [go_sem, e0, hq])
    · have e0 := slot_eq (hag 3 rfl)
      exact rel_pure _ rfl rfl (by simp [go_sem, e0])
    · have e0 := slot_eq (hdep ⟨2, .data⟩ (by simp) rfl)
      have hq := (x0.keep hE).all.1
      exact rel_pure _ rfl rfl (by simp [go_sem, e0, hq])
    · have e0 := slot_eq (hag 1 rfl)
      exact rel_pure _ rfl rfl (by simp [go_sem, e0])
    · have e0 := slot_eq (hag 2 rfl)
      exact rel_pure _ rfl rfl (by simp [go_sem, e0])
    · have e0 := slot_eq (hdep ⟨3, .data⟩ (by simp) rfl)
      have e1 := slot_eq (hdep ⟨4, .data⟩ (by simp) rfl)
      have e2 := slot_eq (hdep ⟨5, .data⟩ (by simp) rfl)
      refine rel_call (f := 43) (args := #[.agg #[.int .i64 x, .int .i64 y, .int .i64 (w : Int), .int .i64 h], .int .i64 (x + (i : Int)), .int .i64 (y + (j : Int))]) (run_go_call Tryd.func43 (by kernel_rfl) (by kernel_rfl) _ _ _ _ _ _ _ _ _ _ (by simp [Act.eval, e0, e1, e2])) rfl ?_
      refine (frame_offset x y w h i j wx (by omega) (by omega) (by omega) (by omega) (by omega) (by omega) (by omega)).mono ?_
      rw [HP.out]
      rintro e w' ⟨rfl, hb⟩
      exact ⟨_, rfl, rfl, hb⟩
    · have e0 := slot_eq (hdep ⟨1, .data⟩ (by simp) rfl)
      have e1 := slot_eq (hdep ⟨6, .data⟩ (by simp) rfl)
      exact rel_pure _ rfl rfl (by simp [go_sem, e0, e1, hPn, hPi])
    · have e0 := slot_eq (hdep ⟨7, .data⟩ (by simp) rfl)
      refine rel_call (f := 10) (args := #[.slice (some ⟨b, o + P0, none⟩) (n - P0) (c - P0)]) (run_go_call Tryd.func10 (by kernel_rfl) (by kernel_rfl) _ _ _ _ _ _ _ _ _ _ (by simp [Act.eval, e0])) rfl ?_
      have hT := frame_Take_ok b (o + P0) (n - P0) (c - P0) (xs.drop P0) wx (by omega) (by omega) (by rw [List.length_drop, Hxs.out]) (rd_drop (hrd.keep hE) P0)
      rw [Hv.out.1, Hv.out.2.1, Hv.out.2.2.1, Hv.out.2.2.2] at hT
      refine hT.mono ?_
      rintro e w' ⟨rfl, hb⟩
      exact ⟨_, rfl, rfl, hb⟩
    · have e0 := slot_eq (hdep ⟨8, .data⟩ (by simp) rfl)
      exact rel_pure _ rfl rfl (by simp [go_sem, e0])
    · have e0 := slot_eq (hdep ⟨9, .data⟩ (by simp) rfl)
      exact rel_pure _ rfl rfl (by simp [go_sem, e0])
    · exact rel_val (v := .pointer (some ⟨wx.heap.size, 0, none⟩)) (w' := wx.alloc (.cells #[.float .f32 0, .float .f32 0, .float .f32 0, .float .f32 0] 32)) (by simp [go_sem]) ⟨_, rfl, hE.size, Bx.new _ _ _⟩ ((Below.refl _ _).alloc (Nat.le_refl _) _) (fun h => by cases h)
  · intro t op ht hlt hop a wx hE hdep
    simp only [Bool.or_eq_true, beq_iff_eq] at hlt
    rcases (by omega : t = 11) with rfl
    all_goals simp only [List.getElem?_cons_zero, List.getElem?_cons_succ, Option.some.injEq] at hop
    all_goals subst hop
    · have e0 := slot_eq (hdep ⟨9, .data⟩ (by simp) rfl)
      exact ⟨rfl, _, rfl, fun u => by simp [go_sem, e0]⟩
  · intro vs wx hE hvs _
    have k10 : vs 10 = .agg #[.float .f32 (v0), .float .f32 (v1), .float .f32 (v2), .float .f32 (v3)] := hvs 10 (by omega)
    have k11 : vs 11 = .int .i64 0 := hvs 11 (by omega)
    obtain ⟨g, k12, hg, xg⟩ := hvs 12 (by omega)
    simp only [List.drop_succ_cons, List.drop_zero, putAll, dstAt, List.getElem?_toArray, List.getElem?_cons_zero, List.getElem?_cons_succ, Option.bind_some, Act.put, List.setIfInBounds_toArray, List.set_cons_zero, List.set_cons_succ, k10, k11, k12]
    clear hvs k10 k11 k12
    have lx := x1.lt
    have hgn : W.heap.size + 1 ≠ g := by omega
    replace x1 := x1.keep hE
    have hs := B3.size
    have B4 := bcall B3 hE
    have hsg : W.heap.size ≤ g := by omega
    have Hs := Lib.hid (And.intro hgn hsg)
    clear x0 hrd hPn hPi B3 q0 f0 l0 q1 f1 l1 hg lx hs hE hgn hsg
    obtain ⟨z1, on⟩ := set4 xg (.float .f32 (v0)) (.float .f32 (v1)) (.float .f32 (v2)) (.float .f32 (v3))
    obtain ⟨qg, fg, lg⟩ := xg.all
    go_wp2_with fail
    refine name_world ?_
    intro wn hwn
    have z2 : Bx wn g _ _ := hwn ▸ z1
    have x2 : Bx wn (W.heap.size + 1) _ _ := hwn ▸ on.bx Hs.out.1 x1
    have B5 : Below W.heap.size W wn := hwn ▸ bonly B4 on Hs.out.2
    clear hwn qg fg lg xg z1 on x1 B4
    clear Hv Hxs HP
    have hz0 : #[Value.float .f32 v0, Value.float .f32 v1, Value.float .f32 v2, Value.float .f32 v3] = clA (fun k => [v0, v1, v2, v3].getD k 0) 0 := rfl
    rw [hz0] at z2
    clear hz0
    go_wp2_with fail
    go_loopw [37] (fun s wr => ∃ k : Nat, k ≤ 4 ∧ s = .int .i64 k ∧ Bx wr g 32 (clA (fun k => [v0, v1, v2, v3].getD k 0) k) ∧ Bx wr (W.heap.size + 1) 32 #[.float .f32 0, .float .f32 0, .float .f32 0, .float .f32 0] ∧ Below W.heap.size W wr) (fun s _ => 4 - (intOf s).toNat)
    case atStart => exact ⟨0, by omega, rfl, z2, x2, B5⟩
    case round =>
      clear z2 x2 B5
      obtain ⟨k, hk, rfl, z2, x2, B5⟩ := hrel
      by_cases hlt : k < 4
      · have hki : (k : Int) < 4 := by omega
        have hq := (z2.all.1 k).trans (clA_at (fun k => [v0, v1, v2, v3].getD k 0) k hlt)
        have hf := z2.all.2.1 k
        have hl := z2.lt
        have hset := clA_set (fun k => [v0, v1, v2, v3].getD k 0) k hlt
        generalize [v0, v1, v2, v3].getD k 0 = vk at hq hset
        have Hset := Lib.hid hset
        clear hset
        go_wp2_with (go_at_call 44; refine (num_Clean _ _).mono ?_; rintro e w' ⟨rfl, rfl⟩)
        go_roundw
        case rel => exact ⟨k + 1, by omega, by go_num, by rw [← Hset.out]; exact z2.set k _, x2.other _ _ (by have := Hs.out.1; dsimp only; omega), bput Hs.out.2 B5⟩
        case measure => simp [intOf]; omega
      · have hk4 : k = 4 := by omega
        subst hk4
        have hz4 : clA (fun k => [v0, v1, v2, v3].getD k 0) 4 = #[Value.float .f32 (canon v0), Value.float .f32 (canon v1), Value.float .f32 (canon v2), Value.float .f32 (canon v3)] := rfl
        rw [hz4] at z2
        clear hz4
        obtain ⟨q2, f2, l2⟩ := z2.all
        obtain ⟨q1, f1, l1⟩ := x2.all
        go_wp2_with fail
        refine bodyPost_ret (v := .tuple #[.agg #[.float .f32 (canon v0), .float .f32 (canon v1), .float .f32 (canon v2), .float .f32 (canon v3)], .int .i64 0]) (by simp [results, Tryd.results13, go_sem, q1]) rfl ⟨rfl, ?_⟩
        exact bput (by omega) (bput (by omega) (bput (by omega) (bput (by omega) B5)))

end Go.Proofs.YtjicgbpnplmpbaaDoor
