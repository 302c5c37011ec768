/- The closures of Spread and Shrink, Invert, CheckMatte of key. -/
import Derived.Test.YtoffnmpnhddaiaaMtP
import Derived.Test.YtoffnmpnhddaiaaMat
namespace Go.Proofs.Ytoffnmpnhddaiaa
open Go.RowKit

theorem map_getD (zs : List Nat) (k : Nat) (h : k < zs.length) : (zs.map qW).getD k 0 = qW (zs.getD k 0) := by
  simp [h]
theorem take_fold (f : Nat → Nat → Nat) (zs : List Nat) (a k : Nat) (h : k < zs.length) : (zs.take (k + 1)).foldl f a = f ((zs.take k).foldl f a) (zs.getD k 0) := by
  rw [List.take_succ_eq_append_getElem h, List.foldl_append]
  simp [h]
theorem getD_mem (zs : List Nat) (k : Nat) (h : k < zs.length) : zs.getD k 0 ∈ zs := by simp [h]
theorem fold_bd (f : Nat → Nat → Nat) (hf : ∀ a b, f a b = a ∨ f a b = b) (zs : List Nat) : ∀ a, a ≤ 1024 → (∀ z ∈ zs, z ≤ 1024) → zs.foldl f a ≤ 1024 := by
  induction zs with
  | nil => intro a h _; exact h
  | cons x zs ih =>
    intro a h hz
    rw [List.foldl_cons]
    refine ih _ ?_ (fun z h => hz z (List.mem_cons_of_mem _ h))
    rcases hf a x with e | e
    · rw [e]; exact h
    · rw [e]; exact hz x (by simp)
theorem headD_getD (zs : List Nat) : zs.headD 0 = zs.getD 0 0 := by cases zs <;> rfl

set_option maxRecDepth 100000 in
set_option maxHeartbeats 1000000 in
theorem key_Shrink1 (zs : List Nat) (b n c : Nat) (W : World) (hn : zs.length = n) (hn1 : 0 < n) (hn2 : n ≤ 10000) (hz : ∀ z ∈ zs, z ≤ 1024) (hrd : Rd W b 0 (zs.map qW)) :
    Calls Try.prog 111 #[.slice (some ⟨b, 0, none⟩) n c] W fun e w' => e = .returned (.float .f32 (qW (minL zs))) ∧ W = w' := by
  have Hn := Lib.hid hn
  have Hz := Lib.hid hz
  have c0 := hrd.cell0 0 (by rw [List.length_map]; omega)
  rw [map_getD _ _ (by omega)] at c0
  have h00 : minL zs = zs.foldl min (zs.getD 0 0) := by unfold minL; rw [headD_getD]
  have H0 := Lib.hid h00
  have hz0 : zs.getD 0 0 ≤ 1024 := hz _ (getD_mem _ _ (by omega))
  clear hn hz h00
  generalize zs.getD 0 0 = z0 at *
  go_enter Try.func111, Try.ntmps111
  go_wp2_with fail
  go_loop [3, 11] (fun m i => ∃ k : Nat, k ≤ n ∧ i = .int .i64 (k : Int) ∧ m = .float .f32 (qW ((zs.take k).foldl min z0))) (fun _ i => n - (intOf i).toNat)
  case atStart => exact ⟨0, by omega, rfl, rfl⟩
  case round =>
    obtain ⟨k, hk, rfl, rfl⟩ := hrel
    by_cases hlt : k < n
    · have hki : (k : Int) < (n : Int) := by omega
      have ck := hrd.cell0 k (by rw [List.length_map, Hn.out]; omega)
      rw [map_getD _ _ (by rw [Hn.out]; omega)] at ck
      have hfs := take_fold min zs z0 k (by rw [Hn.out]; omega)
      have hzk : zs.getD k 0 ≤ 1024 := Hz.out _ (getD_mem _ _ (by rw [Hn.out]; omega))
      have hm : (zs.take k).foldl min z0 ≤ 1024 := fold_bd min (fun a b => by omega) _ _ hz0 (fun z h => Hz.out z (List.mem_of_mem_take h))
      have Hfs := Lib.hid hfs
      clear hfs c0
      have hord := qW_order _ _ hzk hm
      rw [Nat.compare_eq_ite_lt] at hord
      generalize hmm : (zs.take k).foldl min z0 = m at *
      have Hmm := Lib.hid hmm
      generalize zs.getD k 0 = z at *
      clear hmm
      have Hf := Hfs.out
      rcases (by omega : z < m ∨ z = m ∨ m < z) with h | h | h
      · rw [if_pos h] at hord
        have hfn : min m z = z := by omega
        rw [hfn] at Hf
        have Hg := Lib.hid Hf
        clear hfn Hf Hfs h
        go_wp2_with fail
        go_round
        case rel => exact ⟨k + 1, by omega, by go_num, by rw [Hg.out]⟩
        case measure => simp [intOf]; omega
      · rw [if_neg (by omega), if_neg (by omega)] at hord
        have hfn : min m z = m := by omega
        rw [hfn] at Hf
        have Hg := Lib.hid Hf
        clear hfn Hf Hfs h
        go_wp2_with fail
        go_round
        case rel => exact ⟨k + 1, by omega, by go_num, by rw [Hg.out]⟩
        case measure => simp [intOf]; omega
      · rw [if_neg (by omega), if_pos h] at hord
        have hfn : min m z = m := by omega
        rw [hfn] at Hf
        have Hg := Lib.hid Hf
        clear hfn Hf Hfs h
        go_wp2_with fail
        go_round
        case rel => exact ⟨k + 1, by omega, by go_num, by rw [Hg.out]⟩
        case measure => simp [intOf]; omega
    · have hkn : k = n := by omega
      subst hkn
      go_wp2_with fail
      go_ret
      exact ⟨ret_f32 (by rw [H0.out, List.take_of_length_le (by rw [Hn.out]; omega)]), rfl⟩

set_option maxRecDepth 100000 in
set_option maxHeartbeats 1000000 in
theorem key_Spread1 (zs : List Nat) (b n c : Nat) (W : World) (hn : zs.length = n) (hn1 : 0 < n) (hn2 : n ≤ 10000) (hz : ∀ z ∈ zs, z ≤ 1024) (hrd : Rd W b 0 (zs.map qW)) :
    Calls Try.prog 112 #[.slice (some ⟨b, 0, none⟩) n c] W fun e w' => e = .returned (.float .f32 (qW (maxL zs))) ∧ W = w' := by
  have Hn := Lib.hid hn
  have Hz := Lib.hid hz
  have c0 := hrd.cell0 0 (by rw [List.length_map]; omega)
  rw [map_getD _ _ (by omega)] at c0
  have h00 : maxL zs = zs.foldl max (zs.getD 0 0) := by unfold maxL; rw [headD_getD]
  have H0 := Lib.hid h00
  have hz0 : zs.getD 0 0 ≤ 1024 := hz _ (getD_mem _ _ (by omega))
  clear hn hz h00
  generalize zs.getD 0 0 = z0 at *
  go_enter Try.func112, Try.ntmps112
  go_wp2_with fail
  go_loop [3, 11] (fun m i => ∃ k : Nat, k ≤ n ∧ i = .int .i64 (k : Int) ∧ m = .float .f32 (qW ((zs.take k).foldl max z0))) (fun _ i => n - (intOf i).toNat)
  case atStart => exact ⟨0, by omega, rfl, rfl⟩
  case round =>
    obtain ⟨k, hk, rfl, rfl⟩ := hrel
    by_cases hlt : k < n
    · have hki : (k : Int) < (n : Int) := by omega
      have ck := hrd.cell0 k (by rw [List.length_map, Hn.out]; omega)
      rw [map_getD _ _ (by rw [Hn.out]; omega)] at ck
      have hfs := take_fold max zs z0 k (by rw [Hn.out]; omega)
      have hzk : zs.getD k 0 ≤ 1024 := Hz.out _ (getD_mem _ _ (by rw [Hn.out]; omega))
      have hm : (zs.take k).foldl max z0 ≤ 1024 := fold_bd max (fun a b => by omega) _ _ hz0 (fun z h => Hz.out z (List.mem_of_mem_take h))
      have Hfs := Lib.hid hfs
      clear hfs c0
      have hord := qW_order _ _ hzk hm
      rw [Nat.compare_eq_ite_lt] at hord
      generalize hmm : (zs.take k).foldl max z0 = m at *
      have Hmm := Lib.hid hmm
      generalize zs.getD k 0 = z at *
      clear hmm
      have Hf := Hfs.out
      rcases (by omega : z < m ∨ z = m ∨ m < z) with h | h | h
      · rw [if_pos h] at hord
        have hfn : max m z = m := by omega
        rw [hfn] at Hf
        have Hg := Lib.hid Hf
        clear hfn Hf Hfs h
        go_wp2_with fail
        go_round
        case rel => exact ⟨k + 1, by omega, by go_num, by rw [Hg.out]⟩
        case measure => simp [intOf]; omega
      · rw [if_neg (by omega), if_neg (by omega)] at hord
        have hfn : max m z = m := by omega
        rw [hfn] at Hf
        have Hg := Lib.hid Hf
        clear hfn Hf Hfs h
        go_wp2_with fail
        go_round
        case rel => exact ⟨k + 1, by omega, by go_num, by rw [Hg.out]⟩
        case measure => simp [intOf]; omega
      · rw [if_neg (by omega), if_pos h] at hord
        have hfn : max m z = z := by omega
        rw [hfn] at Hf
        have Hg := Lib.hid Hf
        clear hfn Hf Hfs h
        go_wp2_with fail
        go_round
        case rel => exact ⟨k + 1, by omega, by go_num, by rw [Hg.out]⟩
        case measure => simp [intOf]; omega
    · have hkn : k = n := by omega
      subst hkn
      go_wp2_with fail
      go_ret
      exact ⟨ret_f32 (by rw [H0.out, List.take_of_length_le (by rw [Hn.out]; omega)]), rfl⟩

set_option maxRecDepth 100000 in
theorem key_CheckMatte (x y w h : Int) (a : Option Addr) (n c : Nat) (W : World) :
    Calls Try.prog 109 #[.agg #[.int .i64 x, .int .i64 y, .int .i64 w, .int .i64 h, .slice a n c]] W fun e w' => e = .returned (.int .i64 (checkMatte x y w h n)) ∧ Below W.heap.size W w' := by
  go_enter Try.func109, Try.ntmps109
  go_wp2_with fail
  refine (frame_CheckMatte _ _ _ _ _ _ _ _).mono ?_
  rintro e w1 ⟨rfl, hb1⟩
  go_wp2_with fail
  go_ret
  exact ⟨rfl, bcall (bnew (Below.refl _ W)) hb1⟩
end Go.Proofs.Ytoffnmpnhddaiaa
