/- dyeref1.Print. (printed by gen_prd.py) -/
import Derived.Test.YtckadkobgmnoeaaDoorPrD
namespace Go.Proofs.YtckadkobgmnoeaaDoor
open Go.RowKit

theorem rem_last (k m : Nat) (hm : 0 < m) : k % m = m - 1 ↔ (k + 1) % m = 0 := by
  have h := Nat.mod_lt k hm
  have e : (k + 1) % m = (k % m + 1) % m := (Nat.mod_add_mod k m 1).symm
  rw [e]
  generalize k % m = r at *
  by_cases he : r + 1 = m
  · rw [he, Nat.mod_self]
    exact ⟨fun _ => rfl, fun _ => by omega⟩
  · rw [Nat.mod_eq_of_lt (by omega)]
    exact ⟨fun _ => by omega, fun _ => by omega⟩

set_option maxRecDepth 100000 in
set_option maxHeartbeats 8000000 in
theorem ref_Print (x y : Int) (wn hn b o N c : Nat) (xs : List Nat) (W : World) (E : Env W) (hT : Tab15 W) (hx : -1000 ≤ x ∧ x ≤ 1000) (hy : -1000 ≤ y ∧ y ≤ 1000) (hw1 : 1 ≤ wn) (hw8 : wn ≤ 8) (hh1 : 1 ≤ hn) (hh8 : hn ≤ 8) (hN : N = 4 * (wn * hn)) (hxs : xs.length = N) (hrd : Rd W b o xs) (hcn : ∀ k, canon (xs.getD k 0) < 4294967296) :
    Calls Tryd.prog 7 #[.agg #[.int .i64 x, .int .i64 y, .int .i64 (wn : Int), .int .i64 (hn : Int), .slice (some ⟨b, o, none⟩) N c]] W fun e w' => e = .returned (.string (ofL (headT x y (wn : Int) (hn : Int) ++ [10] ++ textTo (fun k => canon (xs.getD k 0)) wn N))) ∧ Below W.heap.size W w' := by
  have hN8 : N ≤ 256 := by
    have := Nat.mul_le_mul hw8 hh8
    omega
  have hN1 : 4 ≤ N := by
    have := Nat.mul_le_mul hw1 hh1
    omega
  obtain ⟨F, hF⟩ : ∃ F : Nat → Nat, (fun k => canon (xs.getD k 0)) = F := ⟨_, rfl⟩
  have hFk : ∀ k, canon (xs.getD k 0) = F k := fun k => congrFun hF k
  obtain ⟨Hd, hHd⟩ : ∃ Hd, headT x y (wn : Int) (hn : Int) ++ [10] = Hd := ⟨_, rfl⟩
  rw [hF, hHd]
  obtain ⟨X1, hX1⟩ : ∃ X, ofL (Lib.itoa x) = X := ⟨_, rfl⟩
  obtain ⟨X2, hX2⟩ : ∃ X, ofL (Lib.itoa y) = X := ⟨_, rfl⟩
  obtain ⟨X3, hX3⟩ : ∃ X, ofL (Lib.itoa (wn : Int)) = X := ⟨_, rfl⟩
  obtain ⟨X4, hX4⟩ : ∃ X, ofL (Lib.itoa (hn : Int)) = X := ⟨_, rfl⟩
  have s1 := itoa_size x X1 hX1 (by omega) (by omega)
  have s2 := itoa_size y X2 hX2 (by omega) (by omega)
  have s3 := itoa_size (wn : Int) X3 hX3 (by omega) (by omega)
  have s4 := itoa_size (hn : Int) X4 hX4 (by omega) (by omega)
  have I1 := Lib.hid (fun w E => itoa_at x X1 hX1 (by omega) (by omega) w E)
  have I2 := Lib.hid (fun w E => itoa_at y X2 hX2 (by omega) (by omega) w E)
  have I3 := Lib.hid (fun w E => itoa_at (wn : Int) X3 hX3 (by omega) (by omega) w E)
  have I4 := Lib.hid (fun w E => itoa_at (hn : Int) X4 hX4 (by omega) (by omega) w E)
  have hhb := head_bytes x y (wn : Int) (hn : Int)
  rw [hX1, hX2, hX3, hX4, hHd] at hhb
  have HHB := Lib.hid hhb
  have HFK := Lib.hid hFk
  have HXS := Lib.hid hxs
  have HCN := Lib.hid hcn
  have HNN := Lib.hid hN
  have hHl : Hd.length ≤ 1000 := by
    have h1 := congrArg ByteArray.size hhb
    rw [ofL_size] at h1
    simp only [ByteArray.size_append] at h1
    have e1 : (⟨#[102, 114, 97, 109, 101, 32]⟩ : ByteArray).size = 6 := rfl
    have e2 : (⟨#[32]⟩ : ByteArray).size = 1 := rfl
    have e3 : (⟨#[10]⟩ : ByteArray).size = 1 := rfl
    omega
  clear hF hFk hHd hX1 hX2 hX3 hX4 hhb hxs hcn hN
  go_enter Tryd.func7, Tryd.ntmps7
  go_upto_region 1 with fail
  refine name_world ?_
  intro w1 hw1
  obtain ⟨gF, hgF⟩ : ∃ g, g = W.heap.size := ⟨_, rfl⟩
  have xF : Bx w1 gF 26 #[.int .i64 x, .int .i64 y, .int .i64 (wn : Int), .int .i64 (hn : Int), .slice (some ⟨b, o, none⟩) N c] := by rw [hw1, hgF]; exact Bx.new _ _ _
  have B1 : Below W.heap.size W w1 := by rw [hw1]; exact bnew (Below.refl _ _)
  have hWF : W.heap.size ≤ gF := Nat.le_of_eq hgF.symm
  rw [← hgF]
  clear hw1 hgF
  have HRD := Lib.hid hrd
  have hbW := hrd.lt
  clear hrd
  obtain ⟨qF, fF, lF⟩ := xF.all
  go_upto_region 2 with fail
  refine name_world ?_
  intro w3 hw3
  obtain ⟨pB, hpB⟩ : ∃ g, g = w1.heap.size := ⟨_, rfl⟩
  have bt : BT pB [] w3 := by rw [hw3, hpB]; exact Lib.fresh_isBuilder _ _ _
  have hFB : gF < pB := by rw [hpB]; exact xF.lt
  replace xF : Bx w3 gF 26 #[.int .i64 x, .int .i64 y, .int .i64 (wn : Int), .int .i64 (hn : Int), .slice (some ⟨b, o, none⟩) N c] := by rw [hw3]; exact Bx.alloc xF _
  replace B1 : Below W.heap.size W w3 := by rw [hw3]; exact bnew B1
  rw [← hpB]
  clear hw3 hpB qF fF lF
  obtain ⟨qF, fF, lF⟩ := xF.all
  have E3 := E.below B1
  refine wp_region_tail (fun z : BW w3.heap.size w3 => z.w) 24 (by kernel_rfl) (by kernel_rfl) (BW.start _ _) rfl ?_
  simp only [List.take_succ_cons, List.take_zero, List.drop_succ_cons, List.drop_zero]
  repeat (go_big_quiet_step (first
    | (exact BW.call (Nat.le_refl _) _ (I1.out _ (E3.below (BW.below _))))
    | (exact BW.call (Nat.le_refl _) _ (I2.out _ (E3.below (BW.below _))))
    | (exact BW.call (Nat.le_refl _) _ (I3.out _ (E3.below (BW.below _))))
    | (exact BW.call (Nat.le_refl _) _ (I4.out _ (E3.below (BW.below _))))))
  refine wpQuiet_nil ?_
  intro z
  have hzb := z.below
  generalize z.w = w4 at *
  clear z
  replace bt := bt.keep hzb
  replace xF := xF.keep hzb
  replace B1 := B1.trans (hzb.mono B1.size)
  clear hzb qF fF lF E3 I1 I2 I3 I4
  go_wp2_with fail
  rw [← HHB.out]
  refine (bt_write pB [] Hd _ bt (by simp; omega)).mono ?_
  rw [List.nil_append]
  rintro e w5 ⟨⟨nw, rfl⟩, bt2, Bw⟩
  have bt := bt2
  have xF := bx_below xF Bw hFB
  replace B1 := B1.trans (Bw.mono (by omega))
  clear bt2 Bw HHB s1 s2 s3 s4
  obtain ⟨qF, fF, lF⟩ := xF.all
  go_wp2_with fail
  go_loopw [4, 5, 34] (fun _ _ iv wr => ∃ (k : Nat), iv = .int .i64 (k : Int) ∧ k ≤ N ∧ BT pB (Hd ++ textTo F wn k) wr ∧ Bx wr gF 26 #[.int .i64 x, .int .i64 y, .int .i64 (wn : Int), .int .i64 (hn : Int), .slice (some ⟨b, o, none⟩) N c] ∧ Below W.heap.size W wr) (fun _ _ iv _ => N - (intOf iv).toNat)
  case atStart => exact ⟨0, rfl, Nat.zero_le _, by rw [textTo, List.append_nil]; exact bt, xF, B1⟩
  case round =>
    clear bt xF B1 qF fF lF
    obtain ⟨k, rfl, hk, bt, xF, B1⟩ := hrel
    have htl := textTo_len F wn k
    by_cases hlt : k < N
    rotate_left
    · obtain rfl : k = N := by omega
      go_wp2_with fail
      refine (Tryd.Builder_String_any pB pB (Hd ++ textTo F wn k) _ bt (Nat.le_of_lt bt.lt)).mono ?_
      rintro e wx ⟨rfl, hbx⟩
      replace B1 := B1.trans (hbx.mono (show W.heap.size ≤ pB by omega))
      go_wp2_with fail
      go_ret
      exact ⟨rfl, B1⟩
    have pc : wr.cell? ⟨b, o + k, none⟩ = some (.float .f32 (xs.getD k 0)) := (HRD.out.keep B1).cell k (by rw [HXS.out]; exact hlt)
    obtain ⟨v, hv⟩ : ∃ v, xs.getD k 0 = v := ⟨_, rfl⟩
    have hcv : canon v = F k := by rw [← hv]; exact HFK.out k
    have hc32 : canon v < 4294967296 := by rw [← hv]; exact HCN.out k
    rw [hv] at pc
    have HCV := Lib.hid hcv
    clear hv hcv
    go_wp2_with fail
    refine (ref_Hex v _ hc32 (hT.below B1)).mono ?_
    rw [HCV.out]
    rintro e w6 ⟨rfl, B2⟩
    replace bt := bt.keep B2
    replace xF := xF.keep B2
    replace B1 := B1.trans (B2.mono B1.size)
    clear B2 pc hc32
    go_wp2_with fail
    refine (bt_write pB _ (hex8 (F k)) _ bt (by rw [List.length_append]; have h8 : (hex8 (F k)).length = 8 := rfl; omega)).mono ?_
    rintro e w7 ⟨⟨nw, rfl⟩, bt2, Bw⟩
    replace xF := bx_below xF Bw hFB
    replace B1 := B1.trans (Bw.mono (show W.heap.size ≤ pB by omega))
    replace bt := bt2
    clear bt2 Bw
    obtain ⟨qF, fF, lF⟩ := xF.all
    have hem : (k : Int) % (4 * (wn : Int)) = ((k % (4 * wn) : Nat) : Int) := by push_cast; rfl
    have he4 : (k : Int) % 4 = ((k % 4 : Nat) : Int) := by push_cast; rfl
    have hrl := rem_last k (4 * wn) (by omega)
    by_cases hr0 : (k + 1) % (4 * wn) = 0
    · have hA : ((k : Int) % (4 * (wn : Int)) == 4 * (wn : Int) - 1) = true := by rw [hem, hrl.2 hr0]; exact beq_iff_eq.2 (by omega)
      clear hem he4 hrl
      have HR0 := Lib.hid hr0
      clear hr0
      go_upto_region 8 with fail
      go_quiet (fail)
      go_wp2_with fail
      refine name_callw ?_
      intro wd hwd
      replace bt : BT pB (Hd ++ textTo F wn k ++ hex8 (F k)) wd := by rw [hwd]; exact bt
      replace xF : Bx wd gF 26 #[.int .i64 x, .int .i64 y, .int .i64 (wn : Int), .int .i64 (hn : Int), .slice (some ⟨b, o, none⟩) N c] := by rw [hwd]; exact xF
      replace B1 : Below W.heap.size W wd := by rw [hwd]; first | exact below_drewN B1 _ | exact below_drewN (below_drewN B1 _) _ | exact (below_drewN B1 _).drew
      clear hwd
      refine (bt_byte pB _ 10 _ rfl _ bt (by rw [List.length_append, List.length_append]; have h8 : (hex8 (F k)).length = 8 := rfl; omega)).mono ?_
      rintro e w8 ⟨rfl, bt2, Bw⟩
      have xF2 := bx_below xF Bw hFB
      have B2 := B1.trans (Bw.mono (show W.heap.size ≤ pB by omega))
      have bt3 : BT pB (Hd ++ textTo F wn (k + 1)) w8 := by
        rw [textTo, show sepAt wn k = [10] by unfold sepAt; rw [if_pos HR0.out], ← List.append_assoc, ← List.append_assoc]
        exact bt2
      clear xF Bw B1 bt bt2 qF fF lF
      go_wp2_with fail
      go_roundw
      case rel => exact ⟨k + 1, by go_num, by omega, bt3, xF2, B2⟩
      case measure => simp [intOf]; omega
    have hA : ((k : Int) % (4 * (wn : Int)) == 4 * (wn : Int) - 1) = false := by rw [hem]; exact beq_eq_false_iff_ne.2 (fun h => hr0 (hrl.1 (by omega)))
    clear hem hrl
    have HR0 := Lib.hid hr0
    clear hr0
    by_cases hm4 : (k + 1) % 4 = 0
    · have hm : (((k : Int) % 4) == 3) = true := by rw [he4]; exact beq_iff_eq.2 (by omega)
      have HM4 := Lib.hid hm4
      clear hm4 he4
      go_upto_region 8 with fail
      go_quiet (fail)
      go_wp2_with fail
      refine name_callw ?_
      intro wd hwd
      replace bt : BT pB (Hd ++ textTo F wn k ++ hex8 (F k)) wd := by rw [hwd]; exact bt
      replace xF : Bx wd gF 26 #[.int .i64 x, .int .i64 y, .int .i64 (wn : Int), .int .i64 (hn : Int), .slice (some ⟨b, o, none⟩) N c] := by rw [hwd]; exact xF
      replace B1 : Below W.heap.size W wd := by rw [hwd]; first | exact below_drewN B1 _ | exact below_drewN (below_drewN B1 _) _ | exact (below_drewN B1 _).drew
      clear hwd
      refine (bt_write_at pB _ [32, 124, 32] _ _ rfl bt (by rw [List.length_append, List.length_append]; have h8 : (hex8 (F k)).length = 8 := rfl; simp; omega)).mono ?_
      rintro e w8 ⟨⟨nw, rfl⟩, bt2, Bw⟩
      have xF2 := bx_below xF Bw hFB
      have B2 := B1.trans (Bw.mono (show W.heap.size ≤ pB by omega))
      have bt3 : BT pB (Hd ++ textTo F wn (k + 1)) w8 := by
        rw [textTo, show sepAt wn k = [32, 124, 32] by unfold sepAt; rw [if_neg HR0.out, if_pos HM4.out], ← List.append_assoc, ← List.append_assoc]
        exact bt2
      clear xF Bw B1 bt bt2 qF fF lF
      go_wp2_with fail
      go_roundw
      case rel => exact ⟨k + 1, by go_num, by omega, bt3, xF2, B2⟩
      case measure => simp [intOf]; omega
    · have hm : (((k : Int) % 4) == 3) = false := by rw [he4]; exact beq_eq_false_iff_ne.2 (by omega)
      have HM4 := Lib.hid hm4
      clear hm4 he4
      go_upto_region 8 with fail
      go_quiet (fail)
      go_wp2_with fail
      refine name_callw ?_
      intro wd hwd
      replace bt : BT pB (Hd ++ textTo F wn k ++ hex8 (F k)) wd := by rw [hwd]; exact bt
      replace xF : Bx wd gF 26 #[.int .i64 x, .int .i64 y, .int .i64 (wn : Int), .int .i64 (hn : Int), .slice (some ⟨b, o, none⟩) N c] := by rw [hwd]; exact xF
      replace B1 : Below W.heap.size W wd := by rw [hwd]; first | exact below_drewN B1 _ | exact below_drewN (below_drewN B1 _) _ | exact (below_drewN B1 _).drew
      clear hwd
      refine (bt_byte pB _ 32 _ rfl _ bt (by rw [List.length_append, List.length_append]; have h8 : (hex8 (F k)).length = 8 := rfl; omega)).mono ?_
      rintro e w8 ⟨rfl, bt2, Bw⟩
      have xF2 := bx_below xF Bw hFB
      have B2 := B1.trans (Bw.mono (show W.heap.size ≤ pB by omega))
      have bt3 : BT pB (Hd ++ textTo F wn (k + 1)) w8 := by
        rw [textTo, show sepAt wn k = [32] by unfold sepAt; rw [if_neg HR0.out, if_neg HM4.out], ← List.append_assoc, ← List.append_assoc]
        exact bt2
      clear xF Bw B1 bt bt2 qF fF lF
      go_wp2_with fail
      go_roundw
      case rel => exact ⟨k + 1, by go_num, by omega, bt3, xF2, B2⟩
      case measure => simp [intOf]; omega
end Go.Proofs.YtckadkobgmnoeaaDoor
