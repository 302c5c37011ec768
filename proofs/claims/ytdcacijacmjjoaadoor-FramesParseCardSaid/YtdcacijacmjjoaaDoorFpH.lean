/- dyeref1.Parse. (printed by gen_fph.py) -/
import Derived.Test.YtdcacijacmjjoaaDoorFpQ
namespace Go.Proofs.YtdcacijacmjjoaaDoor
open Go.RowKit


set_option maxRecDepth 100000 in
set_option maxHeartbeats 8000000 in
theorem ref_Parse (t : ByteArray) (W : World) (E : Env W) : Calls Tryd.prog 6 #[.string t] W fun e w' => PO (parseR t) W e w' := by
  obtain ⟨R, hR⟩ : ∃ R, parseR t = R := ⟨_, rfl⟩
  rw [hR]
  unfold parseR at hR
  go_enter Tryd.func6, Tryd.ntmps6
  go_upto_region 1 with fail
  refine name_world ?_
  intro w1 hw1
  obtain ⟨gR, hgR⟩ : ∃ g, g = W.heap.size := ⟨_, rfl⟩
  have xR : Bx w1 gR 27 #[.int .i64 0, .int .i64 0, .int .i64 0, .int .i64 0, .slice none 0 0] := by rw [hw1, hgR]; exact Bx.new _ _ _
  have B1 : Below W.heap.size W w1 := by rw [hw1]; exact bnew (Below.refl _ _)
  have hWR : W.heap.size ≤ gR := Nat.le_of_eq hgR.symm
  rw [← hgR]
  clear hw1 hgR
  by_cases hbig : 1048576 < t.size
  · have hd : decide ((1048576 : Int) < (t.size : Int)) = true := decide_eq_true (by omega)
    rw [if_pos hbig] at hR
    subst hR
    go_wp2_with fail
    refine (ref_no _ _ _).mono ?_
    rintro e0 wn ⟨rfl, Bn⟩
    replace xR := xR.keep Bn
    replace B1 := B1.trans (Bn.mono B1.size)
    obtain ⟨qR9, fR9, lR9⟩ := xR.all
    go_wp2_with fail
    obtain ⟨qR, _, _⟩ := (frame_put xR (.int .i64 0) (.int .i64 0) (.int .i64 0) (.int .i64 0) (.slice none 0 0)).all
    refine bodyPost_ret (v := .tuple #[.agg #[.int .i64 0, .int .i64 0, .int .i64 0, .int .i64 0, .slice none 0 0], .int .i64 0, .int .i64 4]) (by simp [results, Tryd.results6, go_sem, qR]) rfl ⟨_, rfl, OutV.nil _ _ _, bput5 (by omega) B1⟩
  have hd : decide ((1048576 : Int) < (t.size : Int)) = false := decide_eq_false (by omega)
  rw [if_neg hbig] at hR
  have ht : t.size ≤ 1048576 := by omega
  clear hbig
  obtain ⟨L, hL⟩ : ∃ L, spl nlB t = L := ⟨_, rfl⟩
  have hLz : ∀ p, p ∈ L → p.size ≤ 1048576 := fun p hp => by rw [← hL] at hp; have := spl_mem_size (by decide) hp; omega
  have hLn : 1 ≤ L.length ∧ L.length ≤ 1048577 := by
    rw [← hL, spl_len (by decide)]
    have := Lib.countB_le nlB (by decide) _ t (Nat.le_refl _); omega
  rw [hL] at hR
  have HL := Lib.hid hL
  have HLZ := Lib.hid hLz
  have HR := Lib.hid hR
  clear hL hLz hR
  go_wp2_with fail
  refine (split_at t nlB _ (E.below B1) ht (by decide)).mono ?_
  rw [HL.out]
  have hR1 := xR.lt
  rintro e w2 ⟨rfl, xL, B2⟩
  replace xR := xR.keep B2
  obtain ⟨gL, hgL⟩ : ∃ g, g = w1.heap.size := ⟨_, rfl⟩
  rw [← hgL] at xL ⊢
  have hRL : gR < gL := by rw [hgL]; exact hR1
  replace B1 := B1.trans (B2.mono B1.size)
  clear hgL B2 HL hR1
  obtain ⟨la, hla⟩ : ∃ la, L.length = la + 1 := ⟨L.length - 1, by omega⟩
  obtain ⟨l0, hl0⟩ : ∃ l0, L[0]? = some l0 := ⟨_, List.getElem?_eq_getElem (by omega)⟩
  have hz0 := HLZ.out l0 (List.mem_of_getElem? hl0)
  have pc : w2.cell? ⟨gL, 0, none⟩ = some (.string l0) := by
    rw [xL.all.1 0, List.getElem?_toArray, List.getElem?_map, hl0]; rfl
  have HL0 := Lib.hid hl0
  have HLA := Lib.hid hla
  have hlab : la ≤ 1048576 := by omega
  rw [hla]
  clear hl0 hla hLn
  go_wp2_with fail
  refine (split_at l0 spB _ (E.below B1) hz0 (by decide)).mono ?_
  obtain ⟨ws, hws⟩ : ∃ ws, spl spB l0 = ws := ⟨_, rfl⟩
  rw [hws]
  have hwz : ∀ x, x ∈ ws → x.size ≤ 281474976710656 := fun x hx => by rw [← hws] at hx; have := spl_mem_size (by decide) hx; omega
  have HWZ := Lib.hid hwz
  have HWS := Lib.hid hws
  clear hws hwz pc
  rintro e w3 ⟨rfl, xW, B2⟩
  obtain ⟨gW, hgW⟩ : ∃ g, g = w2.heap.size := ⟨_, rfl⟩
  rw [← hgW] at xW ⊢
  have hLW : gL < gW := by rw [hgW]; exact xL.lt
  replace xR := xR.keep B2
  replace xL := xL.keep B2
  replace B1 := B1.trans (B2.mono B1.size)
  clear hgW B2
  by_cases h0 : la = 0
  · subst h0
    obtain rfl : badP 0 9 = R := (parse_bad HLA.out HL0.out (.inl rfl)).symm.trans HR.out
    clear HR HL0 HLA HWS
    go_wp2_with fail
    refine (ref_no _ _ _).mono ?_
    rintro e0 wn ⟨rfl, Bn⟩
    replace xR := xR.keep Bn
    replace B1 := B1.trans (Bn.mono B1.size)
    obtain ⟨qR9, fR9, lR9⟩ := xR.all
    go_wp2_with fail
    obtain ⟨qR, _, _⟩ := (frame_put xR (.int .i64 0) (.int .i64 0) (.int .i64 0) (.int .i64 0) (.slice none 0 0)).all
    refine bodyPost_ret (v := .tuple #[.agg #[.int .i64 0, .int .i64 0, .int .i64 0, .int .i64 0, .slice none 0 0], .int .i64 0, .int .i64 9]) (by simp [results, Tryd.results6, go_sem, qR]) rfl ⟨_, rfl, OutV.nil _ _ _, bput5 (by omega) B1⟩
  have h0b : ((la : Int) == 0) = false := beq_eq_false_iff_ne.2 (by omega)
  obtain ⟨n, hn⟩ : ∃ n, ws.length = n := ⟨_, rfl⟩
  rw [hn]
  by_cases h5 : n = 5
  rotate_left
  · have hne : ((n : Int) != 5) = true := bne_iff_ne.2 (by omega)
    have hh : headL ws = none := by
      unfold headL
      split
      · rename_i a b c d f
        exact absurd hn (by simp; omega)
      · rfl
    obtain rfl : badP 0 9 = R := (parse_bad HLA.out HL0.out (.inr (by rw [HWS.out]; exact hh))).symm.trans HR.out
    clear HR HL0 HLA HWS hh hn
    go_wp2_with fail
    refine (ref_no _ _ _).mono ?_
    rintro e0 wn ⟨rfl, Bn⟩
    replace xR := xR.keep Bn
    replace B1 := B1.trans (Bn.mono B1.size)
    obtain ⟨qR9, fR9, lR9⟩ := xR.all
    go_wp2_with fail
    obtain ⟨qR, _, _⟩ := (frame_put xR (.int .i64 0) (.int .i64 0) (.int .i64 0) (.int .i64 0) (.slice none 0 0)).all
    refine bodyPost_ret (v := .tuple #[.agg #[.int .i64 0, .int .i64 0, .int .i64 0, .int .i64 0, .slice none 0 0], .int .i64 0, .int .i64 9]) (by simp [results, Tryd.results6, go_sem, qR]) rfl ⟨_, rfl, OutV.nil _ _ _, bput5 (by omega) B1⟩
  subst h5
  obtain ⟨a0, a1, a2, a3, a4, rfl⟩ : ∃ a0 a1 a2 a3 a4, ws = [a0, a1, a2, a3, a4] := by
    rcases ws with _ | ⟨a0, _ | ⟨a1, _ | ⟨a2, _ | ⟨a3, _ | ⟨a4, _ | ⟨a5, L⟩⟩⟩⟩⟩⟩
    case cons.cons.cons.cons.cons.nil => exact ⟨_, _, _, _, _, rfl⟩
    all_goals simp at hn
  clear hn
  replace xW : Bx w3 gW 9 #[.string a0, .string a1, .string a2, .string a3, .string a4] := xW
  obtain ⟨qW, fW, lW⟩ := xW.all
  by_cases hfr : a0 = frameB
  rotate_left
  · have hneq : (a0.toList == ([102, 114, 97, 109, 101] : List UInt8)) = false := (str_lit a0 frameB).trans (decide_eq_false hfr)
    have hh : headL [a0, a1, a2, a3, a4] = none := by
      simp only [headL]
      rw [if_neg]
      rintro ⟨h, _⟩; exact hfr h
    obtain rfl : badP 0 9 = R := (parse_bad HLA.out HL0.out (.inr (by rw [HWS.out]; exact hh))).symm.trans HR.out
    clear HR HL0 HLA HWS hh hfr
    go_wp2_with fail
    refine (ref_no _ _ _).mono ?_
    rintro e0 wn ⟨rfl, Bn⟩
    replace xR := xR.keep Bn
    replace B1 := B1.trans (Bn.mono B1.size)
    obtain ⟨qR9, fR9, lR9⟩ := xR.all
    go_wp2_with fail
    obtain ⟨qR, _, _⟩ := (frame_put xR (.int .i64 0) (.int .i64 0) (.int .i64 0) (.int .i64 0) (.slice none 0 0)).all
    refine bodyPost_ret (v := .tuple #[.agg #[.int .i64 0, .int .i64 0, .int .i64 0, .int .i64 0, .slice none 0 0], .int .i64 0, .int .i64 9]) (by simp [results, Tryd.results6, go_sem, qR]) rfl ⟨_, rfl, OutV.nil _ _ _, bput5 (by omega) B1⟩
  have hneq : (a0.toList == ([102, 114, 97, 109, 101] : List UInt8)) = true := (str_lit a0 frameB).trans (decide_eq_true hfr)
  obtain ⟨n1, b1, hi1⟩ : ∃ n b, intR a1.data.toList = (n, b) := ⟨_, _, rfl⟩
  have hz1 : a1.size ≤ 281474976710656 := HWZ.out _ (by simp)
  obtain ⟨n2, b2, hi2⟩ : ∃ n b, intR a2.data.toList = (n, b) := ⟨_, _, rfl⟩
  have hz2 : a2.size ≤ 281474976710656 := HWZ.out _ (by simp)
  obtain ⟨n3, b3, hi3⟩ : ∃ n b, intR a3.data.toList = (n, b) := ⟨_, _, rfl⟩
  have hz3 : a3.size ≤ 281474976710656 := HWZ.out _ (by simp)
  obtain ⟨n4, b4, hi4⟩ : ∃ n b, intR a4.data.toList = (n, b) := ⟨_, _, rfl⟩
  have hz4 : a4.size ≤ 281474976710656 := HWZ.out _ (by simp)
  have HFR := Lib.hid hfr
  clear hfr
  go_upto_region 10 with fail
  refine name_world ?_
  intro w4 hw4
  obtain ⟨gN, hgN⟩ : ∃ g, g = w3.heap.size := ⟨_, rfl⟩
  have xN : Bx w4 gN 48 #[.int .i64 0, .int .i64 0, .int .i64 0, .int .i64 0] := by rw [hw4, hgN]; exact Bx.new _ _ _
  have hWNl : gW < gN := by rw [hgN]; exact lW
  replace xR : Bx w4 gR 27 #[.int .i64 0, .int .i64 0, .int .i64 0, .int .i64 0, .slice none 0 0] := by rw [hw4]; exact Bx.alloc xR _
  replace xL : Bx w4 gL 9 (L.map Value.string).toArray := by rw [hw4]; exact Bx.alloc xL _
  replace xW : Bx w4 gW 9 #[.string a0, .string a1, .string a2, .string a3, .string a4] := by rw [hw4]; exact Bx.alloc xW _
  replace B1 : Below W.heap.size W w4 := by rw [hw4]; exact bnew B1
  rw [← hgN]
  have hWN : gW ≠ gN := by omega
  have hLN : gL ≠ gN := by omega
  have hRN : gR ≠ gN := by omega
  have hN : W.heap.size ≤ gN := by omega
  clear hw4 hgN qW fW lW hneq
  go_wp2_with fail
  go_loopw [60] (fun iv wr => ∃ (i : Int) (c0 c1 c2 c3 : Int), iv = .int .i64 i ∧ Bx wr gN 48 #[.int .i64 c0, .int .i64 c1, .int .i64 c2, .int .i64 c3] ∧ Bx wr gW 9 #[.string a0, .string a1, .string a2, .string a3, .string a4] ∧ Bx wr gL 9 (L.map Value.string).toArray ∧ Bx wr gR 27 #[.int .i64 0, .int .i64 0, .int .i64 0, .int .i64 0, .slice none 0 0] ∧ Below W.heap.size W wr ∧ (0 = i ∧ (0 = c0 ∧ 0 = c1 ∧ 0 = c2 ∧ 0 = c3) ∨ 1 = i ∧ (n1 = c0 ∧ 0 = c1 ∧ 0 = c2 ∧ 0 = c3) ∧ b1 = true ∨ 2 = i ∧ (n1 = c0 ∧ n2 = c1 ∧ 0 = c2 ∧ 0 = c3) ∧ b1 = true ∧ b2 = true ∨ 3 = i ∧ (n1 = c0 ∧ n2 = c1 ∧ n3 = c2 ∧ 0 = c3) ∧ b1 = true ∧ b2 = true ∧ b3 = true ∨ 4 = i ∧ (n1 = c0 ∧ n2 = c1 ∧ n3 = c2 ∧ n4 = c3) ∧ b1 = true ∧ b2 = true ∧ b3 = true ∧ b4 = true)) (fun iv _ => 4 - (intOf iv).toNat)
  case atStart => exact ⟨0, 0, 0, 0, 0, rfl, xN, xW, xL, xR, B1, .inl ⟨rfl, rfl, rfl, rfl, rfl⟩⟩
  case round =>
    clear xN xW xL xR B1
    obtain ⟨i, c0, c1, c2, c3, rfl, xN, xW, xL, xR, B1, hin⟩ := hrel
    obtain ⟨qN, fN, lN⟩ := xN.all
    obtain ⟨qW, fW, lW⟩ := xW.all
    rcases hin with ⟨rfl, ⟨rfl, rfl, rfl, rfl⟩⟩ | ⟨rfl, ⟨rfl, rfl, rfl, rfl⟩, hb1⟩ | ⟨rfl, ⟨rfl, rfl, rfl, rfl⟩, hb1, hb2⟩ | ⟨rfl, ⟨rfl, rfl, rfl, rfl⟩, hb1, hb2, hb3⟩ | ⟨rfl, ⟨rfl, rfl, rfl, rfl⟩, hb1, hb2, hb3, hb4⟩
    · cases hb1 : b1
      · rw [hb1] at hi1
        have hh : headL [a0, a1, a2, a3, a4] = none := by
          simp only [headL]
          rw [if_neg]
          rintro ⟨_, h1, h2, h3, h4⟩
          rw [hi1] at h1
          cases h1
        obtain rfl : badP 0 9 = R := (parse_bad HLA.out HL0.out (.inr (by rw [HWS.out]; exact hh))).symm.trans HR.out
        clear hh HR HL0 HLA HWS
        go_wp2_with fail
        refine (ref_whole a1 _ (E.below B1) hz1).mono ?_
        rw [hi1]
        rintro e w3 ⟨rfl, B3⟩
        replace xR := xR.keep B3
        replace B1 := B1.trans (B3.mono B1.size)
        clear xN xW qN fN lN qW fW lW B3
        go_wp2_with fail
        refine (ref_no _ _ _).mono ?_
        rintro e0 wn ⟨rfl, Bn⟩
        replace xR := xR.keep Bn
        replace B1 := B1.trans (Bn.mono B1.size)
        obtain ⟨qR9, fR9, lR9⟩ := xR.all
        go_wp2_with fail
        obtain ⟨qR, _, _⟩ := (frame_put xR (.int .i64 0) (.int .i64 0) (.int .i64 0) (.int .i64 0) (.slice none 0 0)).all
        refine bodyPost_ret (v := .tuple #[.agg #[.int .i64 0, .int .i64 0, .int .i64 0, .int .i64 0, .slice none 0 0], .int .i64 0, .int .i64 9]) (by simp [results, Tryd.results6, go_sem, qR]) rfl ⟨_, rfl, OutV.nil _ _ _, bput5 (by omega) B1⟩
      · rw [hb1] at hi1
        go_wp2_with fail
        refine (ref_whole a1 _ (E.below B1) hz1).mono ?_
        rw [hi1]
        rintro e w3 ⟨rfl, B3⟩
        replace xR := xR.keep B3
        replace xL := xL.keep B3
        replace xW := xW.keep B3
        replace xN := xN.keep B3
        replace B1 := B1.trans (B3.mono B1.size)
        clear qN fN lN qW fW lW B3
        obtain ⟨qN, fN, lN⟩ := xN.all
        go_wp2_with fail
        go_roundw
        case rel => exact ⟨_, _, _, _, _, rfl, by simpa using xN.set 0 (.int .i64 n1), xW.other _ _ hWN, xL.other _ _ hLN, xR.other _ _ hRN, Below.set' hN B1, .inr (.inl (⟨rfl, ⟨rfl, rfl, rfl, rfl⟩, trivial⟩))⟩
        case measure => simp [intOf]
    · cases hb2 : b2
      · rw [hb2] at hi2
        have hh : headL [a0, a1, a2, a3, a4] = none := by
          simp only [headL]
          rw [if_neg]
          rintro ⟨_, h1, h2, h3, h4⟩
          rw [hi2] at h2
          cases h2
        obtain rfl : badP 0 9 = R := (parse_bad HLA.out HL0.out (.inr (by rw [HWS.out]; exact hh))).symm.trans HR.out
        clear hh HR HL0 HLA HWS
        go_wp2_with fail
        refine (ref_whole a2 _ (E.below B1) hz2).mono ?_
        rw [hi2]
        rintro e w3 ⟨rfl, B3⟩
        replace xR := xR.keep B3
        replace B1 := B1.trans (B3.mono B1.size)
        clear xN xW qN fN lN qW fW lW B3
        go_wp2_with fail
        refine (ref_no _ _ _).mono ?_
        rintro e0 wn ⟨rfl, Bn⟩
        replace xR := xR.keep Bn
        replace B1 := B1.trans (Bn.mono B1.size)
        obtain ⟨qR9, fR9, lR9⟩ := xR.all
        go_wp2_with fail
        obtain ⟨qR, _, _⟩ := (frame_put xR (.int .i64 0) (.int .i64 0) (.int .i64 0) (.int .i64 0) (.slice none 0 0)).all
        refine bodyPost_ret (v := .tuple #[.agg #[.int .i64 0, .int .i64 0, .int .i64 0, .int .i64 0, .slice none 0 0], .int .i64 0, .int .i64 9]) (by simp [results, Tryd.results6, go_sem, qR]) rfl ⟨_, rfl, OutV.nil _ _ _, bput5 (by omega) B1⟩
      · rw [hb2] at hi2
        go_wp2_with fail
        refine (ref_whole a2 _ (E.below B1) hz2).mono ?_
        rw [hi2]
        rintro e w3 ⟨rfl, B3⟩
        replace xR := xR.keep B3
        replace xL := xL.keep B3
        replace xW := xW.keep B3
        replace xN := xN.keep B3
        replace B1 := B1.trans (B3.mono B1.size)
        clear qN fN lN qW fW lW B3
        obtain ⟨qN, fN, lN⟩ := xN.all
        go_wp2_with fail
        go_roundw
        case rel => exact ⟨_, _, _, _, _, rfl, by simpa using xN.set 1 (.int .i64 n2), xW.other _ _ hWN, xL.other _ _ hLN, xR.other _ _ hRN, Below.set' hN B1, .inr (.inr (.inl (⟨rfl, ⟨rfl, rfl, rfl, rfl⟩, hb1, trivial⟩)))⟩
        case measure => simp [intOf]
    · cases hb3 : b3
      · rw [hb3] at hi3
        have hh : headL [a0, a1, a2, a3, a4] = none := by
          simp only [headL]
          rw [if_neg]
          rintro ⟨_, h1, h2, h3, h4⟩
          rw [hi3] at h3
          cases h3
        obtain rfl : badP 0 9 = R := (parse_bad HLA.out HL0.out (.inr (by rw [HWS.out]; exact hh))).symm.trans HR.out
        clear hh HR HL0 HLA HWS
        go_wp2_with fail
        refine (ref_whole a3 _ (E.below B1) hz3).mono ?_
        rw [hi3]
        rintro e w3 ⟨rfl, B3⟩
        replace xR := xR.keep B3
        replace B1 := B1.trans (B3.mono B1.size)
        clear xN xW qN fN lN qW fW lW B3
        go_wp2_with fail
        refine (ref_no _ _ _).mono ?_
        rintro e0 wn ⟨rfl, Bn⟩
        replace xR := xR.keep Bn
        replace B1 := B1.trans (Bn.mono B1.size)
        obtain ⟨qR9, fR9, lR9⟩ := xR.all
        go_wp2_with fail
        obtain ⟨qR, _, _⟩ := (frame_put xR (.int .i64 0) (.int .i64 0) (.int .i64 0) (.int .i64 0) (.slice none 0 0)).all
        refine bodyPost_ret (v := .tuple #[.agg #[.int .i64 0, .int .i64 0, .int .i64 0, .int .i64 0, .slice none 0 0], .int .i64 0, .int .i64 9]) (by simp [results, Tryd.results6, go_sem, qR]) rfl ⟨_, rfl, OutV.nil _ _ _, bput5 (by omega) B1⟩
      · rw [hb3] at hi3
        go_wp2_with fail
        refine (ref_whole a3 _ (E.below B1) hz3).mono ?_
        rw [hi3]
        rintro e w3 ⟨rfl, B3⟩
        replace xR := xR.keep B3
        replace xL := xL.keep B3
        replace xW := xW.keep B3
        replace xN := xN.keep B3
        replace B1 := B1.trans (B3.mono B1.size)
        clear qN fN lN qW fW lW B3
        obtain ⟨qN, fN, lN⟩ := xN.all
        go_wp2_with fail
        go_roundw
        case rel => exact ⟨_, _, _, _, _, rfl, by simpa using xN.set 2 (.int .i64 n3), xW.other _ _ hWN, xL.other _ _ hLN, xR.other _ _ hRN, Below.set' hN B1, .inr (.inr (.inr (.inl (⟨rfl, ⟨rfl, rfl, rfl, rfl⟩, hb1, hb2, trivial⟩))))⟩
        case measure => simp [intOf]
    · cases hb4 : b4
      · rw [hb4] at hi4
        have hh : headL [a0, a1, a2, a3, a4] = none := by
          simp only [headL]
          rw [if_neg]
          rintro ⟨_, h1, h2, h3, h4⟩
          rw [hi4] at h4
          cases h4
        obtain rfl : badP 0 9 = R := (parse_bad HLA.out HL0.out (.inr (by rw [HWS.out]; exact hh))).symm.trans HR.out
        clear hh HR HL0 HLA HWS
        go_wp2_with fail
        refine (ref_whole a4 _ (E.below B1) hz4).mono ?_
        rw [hi4]
        rintro e w3 ⟨rfl, B3⟩
        replace xR := xR.keep B3
        replace B1 := B1.trans (B3.mono B1.size)
        clear xN xW qN fN lN qW fW lW B3
        go_wp2_with fail
        refine (ref_no _ _ _).mono ?_
        rintro e0 wn ⟨rfl, Bn⟩
        replace xR := xR.keep Bn
        replace B1 := B1.trans (Bn.mono B1.size)
        obtain ⟨qR9, fR9, lR9⟩ := xR.all
        go_wp2_with fail
        obtain ⟨qR, _, _⟩ := (frame_put xR (.int .i64 0) (.int .i64 0) (.int .i64 0) (.int .i64 0) (.slice none 0 0)).all
        refine bodyPost_ret (v := .tuple #[.agg #[.int .i64 0, .int .i64 0, .int .i64 0, .int .i64 0, .slice none 0 0], .int .i64 0, .int .i64 9]) (by simp [results, Tryd.results6, go_sem, qR]) rfl ⟨_, rfl, OutV.nil _ _ _, bput5 (by omega) B1⟩
      · rw [hb4] at hi4
        go_wp2_with fail
        refine (ref_whole a4 _ (E.below B1) hz4).mono ?_
        rw [hi4]
        rintro e w3 ⟨rfl, B3⟩
        replace xR := xR.keep B3
        replace xL := xL.keep B3
        replace xW := xW.keep B3
        replace xN := xN.keep B3
        replace B1 := B1.trans (B3.mono B1.size)
        clear qN fN lN qW fW lW B3
        obtain ⟨qN, fN, lN⟩ := xN.all
        go_wp2_with fail
        go_roundw
        case rel => exact ⟨_, _, _, _, _, rfl, by simpa using xN.set 3 (.int .i64 n4), xW.other _ _ hWN, xL.other _ _ hLN, xR.other _ _ hRN, Below.set' hN B1, .inr (.inr (.inr (.inr (⟨rfl, ⟨rfl, rfl, rfl, rfl⟩, hb1, hb2, hb3, trivial⟩))))⟩
        case measure => simp [intOf]
    · have hh : headL [a0, a1, a2, a3, a4] = some (n1, n2, n3, n4) := by
        simp only [headL]
        rw [hi1, hi2, hi3, hi4, if_pos ⟨HFR.out, hb1, hb2, hb3, hb4⟩]
      have HR3 := Lib.hid ((parse_some HLA.out HL0.out (by omega) (by rw [HWS.out]; exact hh)).symm.trans HR.out)
      clear HR HL0 HWS hh hi1 hi2 hi3 hi4 hb1 hb2 hb3 hb4 hz1 hz2 hz3 hz4 xW qW fW lW
      obtain ⟨qR9, fR9, lR9⟩ := xR.all
      go_upto_region 19 with fail
      refine name_world ?_
      intro w7 hw7
      obtain ⟨gF, hgF⟩ : ∃ g, g = wr.heap.size := ⟨_, rfl⟩
      have hNF : gN < gF := by rw [hgF]; exact lN
      have xF : Bx w7 gF 27 #[.int .i64 n1, .int .i64 n2, .int .i64 n3, .int .i64 n4, .slice none 0 0] := by rw [hw7, hgF]; exact Bx.new _ _ _
      replace xR : Bx w7 gR 27 #[.int .i64 0, .int .i64 0, .int .i64 0, .int .i64 0, .slice none 0 0] := by rw [hw7]; exact Bx.alloc xR _
      replace xL : Bx w7 gL 9 (L.map Value.string).toArray := by rw [hw7]; exact Bx.alloc xL _
      replace B1 : Below W.heap.size W w7 := by rw [hw7]; exact bnew B1
      rw [← hgF]
      clear hw7 hgF qN fN lN xN qR9 fR9 lR9
      obtain ⟨qF, fF, lF⟩ := xF.all
      go_wp2_with fail
      refine (ref_RegionError n1 n2 n3 n4 _).mono ?_
      obtain ⟨c, hc⟩ : ∃ c, checkRegion n1 n2 n3 n4 = c := ⟨_, rfl⟩
      rw [hc]
      rintro e w8 ⟨rfl, B2⟩
      replace xR := xR.keep B2
      replace xL := xL.keep B2
      replace xF := xF.keep B2
      replace B1 := B1.trans (B2.mono B1.size)
      clear qF fF lF B2
      by_cases hc0 : c = 0
      rotate_left
      · have hne : (c != 0) = true := bne_iff_ne.2 hc0
        obtain rfl : badP 0 c = R := by have := HR3.out; rw [hc, if_neg hc0] at this; exact this
        clear HR3 HLA
        go_wp2_with fail
        refine (ref_no _ _ _).mono ?_
        rintro e0 wn ⟨rfl, Bn⟩
        replace xR := xR.keep Bn
        replace B1 := B1.trans (Bn.mono B1.size)
        obtain ⟨qR9, fR9, lR9⟩ := xR.all
        go_wp2_with fail
        obtain ⟨qR, _, _⟩ := (frame_put xR (.int .i64 0) (.int .i64 0) (.int .i64 0) (.int .i64 0) (.slice none 0 0)).all
        refine bodyPost_ret (v := .tuple #[.agg #[.int .i64 0, .int .i64 0, .int .i64 0, .int .i64 0, .slice none 0 0], .int .i64 0, .int .i64 c]) (by simp [results, Tryd.results6, go_sem, qR]) rfl ⟨_, rfl, OutV.nil _ _ _, bput5 (by omega) B1⟩
      subst hc0
      obtain ⟨hw1, hw2, hh1, hh2⟩ := check_ok hc
      have HR4 := Lib.hid (show (match rowsP n3 n4.toNat 1 (L.drop 1) [] with | (vs, k, e) => if e = 0 then (⟨n1, n2, n3, n4, vs, 0, 0⟩ : PR) else badP k e) = R by have := HR3.out; rw [hc, if_pos rfl] at this; exact this)
      clear HR3 hc
      obtain ⟨wn, rfl⟩ : ∃ wn : Nat, n3 = (wn : Int) := ⟨n3.toNat, by omega⟩
      obtain ⟨hn, rfl⟩ : ∃ hn : Nat, n4 = (hn : Int) := ⟨n4.toNat, by omega⟩
      obtain ⟨rvs, rk, rer, hRW⟩ : ∃ a b c, rowsP (wn : Int) hn 1 (L.drop 1) [] = (a, b, c) := ⟨_, _, _, rfl⟩
      have HRe : Hid ((if rer = 0 then (⟨n1, n2, (wn : Int), (hn : Int), rvs, 0, 0⟩ : PR) else badP rk rer) = R) := Lib.hid (by have := HR4.out; rw [Int.toNat_natCast, hRW] at this; exact this)
      have HRW := Lib.hid hRW
      clear HR4 hRW
      have hRF : gR ≠ gF := by omega
      have hLF : gL ≠ gF := by omega
      have hWF : W.heap.size ≤ gF := by omega
      clear hWN hLN hRN hN hNF hWNl hLW
      go_wp2_with fail
      go_loopw [15] (fun iv wr => ∃ (i : Nat) (acc : List Nat) (va : Option Addr) (vn vc : Nat), iv = .int .i64 (i : Int) ∧ 1 ≤ i ∧ i ≤ hn + 1 ∧ acc.length = 4 * wn * (i - 1) ∧ Bx wr gR 27 #[.int .i64 0, .int .i64 0, .int .i64 0, .int .i64 0, .slice none 0 0] ∧ Bx wr gL 9 (L.map Value.string).toArray ∧ Bx wr gF 27 #[.int .i64 n1, .int .i64 n2, .int .i64 (wn : Int), .int .i64 (hn : Int), .slice va vn vc] ∧ OutV W.heap.size wr 35 (.slice va vn vc) (acc.map fun b => .float .f32 b) ∧ Below W.heap.size W wr ∧ Hid (rowsP (wn : Int) (hn + 1 - i) i (L.drop i) acc = (rvs, rk, rer))) (fun iv _ => hn + 1 - (intOf iv).toNat)
      case atStart => exact ⟨1, [], none, 0, 0, rfl, Nat.le_refl _, by omega, by simp, xR, xL, xF, OutV.nil _ _ _, B1, Lib.hid (by rw [Nat.add_sub_cancel]; exact HRW.out)⟩
      case round =>
        clear xR xL xF B1
        obtain ⟨i, acc, va, vn, vc, rfl, hi1, hi2, hal, xR, xL, xF, ho, B1, Hr⟩ := hrel
        have HAL := Lib.hid hal
        clear hal
        obtain ⟨qF, fF, lF⟩ := xF.all
        by_cases hlt : i ≤ hn
        rotate_left
        · obtain rfl : i = hn + 1 := by omega
          have hd : decide (((hn + 1 : Nat) : Int) ≤ (hn : Int)) = false := decide_eq_false (by omega)
          have hrr := Hr.out
          rw [Nat.sub_self, rowsP_zero, HLA.out] at hrr
          obtain ⟨qR9, fR9, lR9⟩ := xR.all
          by_cases hla2 : la = hn + 1
          · subst hla2
            obtain ⟨lz, hlz⟩ : ∃ lz, L[hn + 1]? = some lz := ⟨_, List.getElem?_eq_getElem (by rw [HLA.out]; omega)⟩
            have pc : wr.cell? ⟨gL, hn + 1, none⟩ = some (.string lz) := by
              rw [xL.all.1 _, List.getElem?_toArray, List.getElem?_map, hlz]; rfl
            obtain ⟨_, _, lL⟩ := xL.all
            cases hem : lz.toList.isEmpty
            · obtain rfl : badP ((hn : Int) + 1) 9 = R := by
                rw [if_neg (fun h => by rw [hlz] at h; rw [emp_iff.2 (Option.some.inj h.2)] at hem; cases hem)] at hrr
                simp only [Prod.mk.injEq] at hrr
                obtain ⟨_, rfl, rfl⟩ := hrr
                have := HRe.out
                rw [if_neg (by decide)] at this
                rw [← this]; rfl
              clear hrr Hr HRe HRW HLA hlz
              go_wp2_with fail
              refine (ref_no _ _ _).mono ?_
              rintro e0 wn ⟨rfl, Bn⟩
              replace xR := xR.keep Bn
              replace B1 := B1.trans (Bn.mono B1.size)
              obtain ⟨qR9, fR9, lR9⟩ := xR.all
              go_wp2_with fail
              obtain ⟨qR, _, _⟩ := (frame_put xR (.int .i64 0) (.int .i64 0) (.int .i64 0) (.int .i64 0) (.slice none 0 0)).all
              refine bodyPost_ret (v := .tuple #[.agg #[.int .i64 0, .int .i64 0, .int .i64 0, .int .i64 0, .slice none 0 0], .int .i64 ((hn : Int) + 1), .int .i64 9]) (by simp [results, Tryd.results6, go_sem, qR]) rfl ⟨_, rfl, OutV.nil _ _ _, bput5 (by omega) B1⟩
            · obtain rfl : (⟨n1, n2, (wn : Int), (hn : Int), acc, 0, 0⟩ : PR) = R := by
                rw [if_pos ⟨rfl, by rw [hlz, emp_iff.1 hem]⟩] at hrr
                simp only [Prod.mk.injEq] at hrr
                obtain ⟨rfl, rfl, rfl⟩ := hrr
                have := HRe.out
                rw [if_pos rfl] at this
                exact this
              clear hrr Hr HRe HRW HLA hlz
              go_wp2_with fail
              obtain ⟨qR2, _, _⟩ := (frame_put xR (.int .i64 n1) (.int .i64 n2) (.int .i64 (wn : Int)) (.int .i64 (hn : Int)) (.slice va vn vc)).all
              refine bodyPost_ret (v := .tuple #[.agg #[.int .i64 n1, .int .i64 n2, .int .i64 (wn : Int), .int .i64 (hn : Int), .slice va vn vc], .int .i64 0, .int .i64 0]) (by simp [results, Tryd.results6, go_sem, qR2]) rfl ⟨_, rfl, ho.put5 xR (by decide), bput5 (by omega) B1⟩
          · have hne : ((la : Int) != (hn : Int) + 1) = true := bne_iff_ne.2 (by omega)
            obtain rfl : badP ((hn : Int) + 1) 9 = R := by
              rw [if_neg (fun h => hla2 (by omega))] at hrr
              simp only [Prod.mk.injEq] at hrr
              obtain ⟨_, rfl, rfl⟩ := hrr
              have := HRe.out
              rw [if_neg (by decide)] at this
              rw [← this]; rfl
            clear hrr Hr HRe HRW HLA
            go_wp2_with fail
            refine (ref_no _ _ _).mono ?_
            rintro e0 wn ⟨rfl, Bn⟩
            replace xR := xR.keep Bn
            replace B1 := B1.trans (Bn.mono B1.size)
            obtain ⟨qR9, fR9, lR9⟩ := xR.all
            go_wp2_with fail
            obtain ⟨qR, _, _⟩ := (frame_put xR (.int .i64 0) (.int .i64 0) (.int .i64 0) (.int .i64 0) (.slice none 0 0)).all
            refine bodyPost_ret (v := .tuple #[.agg #[.int .i64 0, .int .i64 0, .int .i64 0, .int .i64 0, .slice none 0 0], .int .i64 ((hn : Int) + 1), .int .i64 9]) (by simp [results, Tryd.results6, go_sem, qR]) rfl ⟨_, rfl, OutV.nil _ _ _, bput5 (by omega) B1⟩
        obtain ⟨n, hn1⟩ : ∃ n, hn + 1 - i = n + 1 := ⟨hn - i, by omega⟩
        have Hr2 : Hid (rowsP (wn : Int) (n + 1) i (L.drop i) acc = (rvs, rk, rer)) := Lib.hid (by rw [← hn1]; exact Hr.out)
        clear Hr
        by_cases hge : la ≤ i
        · obtain rfl : badP (i : Int) 9 = R := row_last Hr2.out (by rw [HLA.out]; omega) HRe.out
          clear Hr2 HRe HRW HLA
          go_wp2_with fail
          refine (ref_no _ _ _).mono ?_
          rintro e0 wn ⟨rfl, Bn⟩
          replace xR := xR.keep Bn
          replace B1 := B1.trans (Bn.mono B1.size)
          obtain ⟨qR9, fR9, lR9⟩ := xR.all
          go_wp2_with fail
          obtain ⟨qR, _, _⟩ := (frame_put xR (.int .i64 0) (.int .i64 0) (.int .i64 0) (.int .i64 0) (.slice none 0 0)).all
          refine bodyPost_ret (v := .tuple #[.agg #[.int .i64 0, .int .i64 0, .int .i64 0, .int .i64 0, .slice none 0 0], .int .i64 (i : Int), .int .i64 9]) (by simp [results, Tryd.results6, go_sem, qR]) rfl ⟨_, rfl, OutV.nil _ _ _, bput5 (by omega) B1⟩
        obtain ⟨l, hl⟩ : ∃ l, L[i]? = some l := ⟨_, List.getElem?_eq_getElem (by rw [HLA.out]; omega)⟩
        have hlz := HLZ.out l (List.mem_of_getElem? hl)
        have hlen2 : i + 1 < L.length := by rw [HLA.out]; omega
        have HLEN := Lib.hid hlen2
        have pc : wr.cell? ⟨gL, i, none⟩ = some (.string l) := by
          rw [xL.all.1 i, List.getElem?_toArray, List.getElem?_map, hl]; rfl
        have HLI := Lib.hid hl
        obtain ⟨P, hP⟩ : ∃ P, spl barB l = P := ⟨_, rfl⟩
        have hPs : ∀ p, p ∈ P → p.size ≤ 1048576 := fun p hp => by rw [← hP] at hp; have := spl_mem_size (by decide) hp; omega
        have hPl : P.length ≤ 1048577 := by
          rw [← hP, spl_len (by decide)]
          have := Lib.countB_le barB (by decide) _ l (Nat.le_refl _); omega
        have HP := Lib.hid hP
        have HS := Lib.hid hPs
        have hlL := xL.lt
        clear hl hlen2 hP hPs
        go_wp2_with fail
        refine (split_at l barB _ (E.below B1) hlz (by decide)).mono ?_
        rw [HP.out]
        rintro e w9 ⟨rfl, xP, B2⟩
        obtain ⟨gP, hgP⟩ : ∃ g, g = wr.heap.size := ⟨_, rfl⟩
        rw [← hgP] at xP ⊢
        have hFP : gF ≠ gP := by have := xF.lt; omega
        replace xR := xR.keep B2
        replace xL := xL.keep B2
        replace xF := xF.keep B2
        replace ho := ho.below B2
        replace B1 := B1.trans (B2.mono B1.size)
        clear hgP B2 qF fF lF pc hlL
        obtain ⟨np, hnp⟩ : ∃ np, P.length = np := ⟨_, rfl⟩
        rw [hnp] at hPl ⊢
        have Hnp := Lib.hid hnp
        clear hnp
        go_wp2_with fail
        go_loopw [16, 127] (fun bv pv wr => ∃ (p : Nat) (us : List (Nat × Int)) (va : Option Addr) (vn vc : Nat), bv = .int .i64 (worst 0 us) ∧ pv = .int .i64 (p : Int) ∧ p ≤ np ∧ us.length ≤ 4 * p ∧ Bx wr gR 27 #[.int .i64 0, .int .i64 0, .int .i64 0, .int .i64 0, .slice none 0 0] ∧ Bx wr gL 9 (L.map Value.string).toArray ∧ Bx wr gF 27 #[.int .i64 n1, .int .i64 n2, .int .i64 (wn : Int), .int .i64 (hn : Int), .slice va vn vc] ∧ Bx wr gP 9 (P.map Value.string).toArray ∧ OutV W.heap.size wr 35 (.slice va vn vc) ((acc ++ us.map (·.1)).map fun b => .float .f32 b) ∧ Below W.heap.size W wr ∧ Hid (rowV P = (rowV (P.drop p)).map (us ++ ·))) (fun _ pv _ => np - (intOf pv).toNat)
        case atStart => exact ⟨0, [], va, vn, vc, rfl, rfl, Nat.zero_le _, Nat.zero_le _, xR, xL, xF, xP, by simpa using ho, B1, Lib.hid (by rw [List.drop_zero]; cases rowV P <;> rfl)⟩
        case round =>
          clear xR xL xF xP ho B1
          obtain ⟨p, us, va, vn, vc, rfl, rfl, hp, hus, xR, xL, xF, xP, ho, B1, Hv⟩ := hrel
          by_cases hlt2 : p < np
          rotate_left
          · obtain rfl : p = np := by omega
            have hrv := row_all Hv.out (by rw [Hnp.out]; exact Nat.le_refl _)
            obtain ⟨qF, fF, lF⟩ := xF.all
            by_cases hW : (p : Int) = (wn : Int)
            rotate_left
            · have hne : ((p : Int) != (wn : Int)) = true := bne_iff_ne.2 hW
              obtain rfl : badP (i : Int) 9 = R := row_bad Hr2.out HLI.out HLEN.out (by rw [rowR_ne (by rw [HP.out, Hnp.out]; exact hW)]) (by decide) HRe.out
              clear Hr2 HRe HRW HLA HLI HLEN hrv Hv
              go_wp2_with fail
              refine (ref_no _ _ _).mono ?_
              rintro e0 wn ⟨rfl, Bn⟩
              replace xR := xR.keep Bn
              replace B1 := B1.trans (Bn.mono B1.size)
              obtain ⟨qR9, fR9, lR9⟩ := xR.all
              go_wp2_with fail
              obtain ⟨qR, _, _⟩ := (frame_put xR (.int .i64 0) (.int .i64 0) (.int .i64 0) (.int .i64 0) (.slice none 0 0)).all
              refine bodyPost_ret (v := .tuple #[.agg #[.int .i64 0, .int .i64 0, .int .i64 0, .int .i64 0, .slice none 0 0], .int .i64 (i : Int), .int .i64 9]) (by simp [results, Tryd.results6, go_sem, qR]) rfl ⟨_, rfl, OutV.nil _ _ _, bput5 (by omega) B1⟩
            have hne : ((p : Int) != (wn : Int)) = false := bne_eq_false_iff_eq.2 hW
            have hrr := rowR_ok (w := (wn : Int)) (by rw [HP.out, Hnp.out]; exact hW) (by rw [HP.out]; exact hrv)
            have hul : us.length = 4 * wn := by rw [rowV_len _ _ hrv, Hnp.out]; omega
            obtain ⟨bad, hbad⟩ : ∃ bad, worst 0 us = bad := ⟨_, rfl⟩
            rw [hbad] at hrr ⊢
            clear hbad hrv
            by_cases hb0 : bad = 0
            rotate_left
            · have hne2 : (bad != 0) = true := bne_iff_ne.2 hb0
              obtain rfl : badP (i : Int) bad = R := row_bad Hr2.out HLI.out HLEN.out (by rw [hrr]) hb0 HRe.out
              clear Hr2 HRe HRW HLA HLI HLEN hrr Hv
              go_wp2_with fail
              refine (ref_no _ _ _).mono ?_
              rintro e0 wn ⟨rfl, Bn⟩
              replace xR := xR.keep Bn
              replace B1 := B1.trans (Bn.mono B1.size)
              obtain ⟨qR9, fR9, lR9⟩ := xR.all
              go_wp2_with fail
              obtain ⟨qR, _, _⟩ := (frame_put xR (.int .i64 0) (.int .i64 0) (.int .i64 0) (.int .i64 0) (.slice none 0 0)).all
              refine bodyPost_ret (v := .tuple #[.agg #[.int .i64 0, .int .i64 0, .int .i64 0, .int .i64 0, .slice none 0 0], .int .i64 (i : Int), .int .i64 bad]) (by simp [results, Tryd.results6, go_sem, qR]) rfl ⟨_, rfl, OutV.nil _ _ _, bput5 (by omega) B1⟩
            subst hb0
            have HG : Hid (rowsP (wn : Int) (hn + 1 - (i + 1)) (i + 1) (L.drop (i + 1)) (acc ++ us.map (·.1)) = (rvs, rk, rer)) := Lib.hid (by rw [show hn + 1 - (i + 1) = n by omega]; exact row_good Hr2.out HLI.out HLEN.out hrr)
            have HLE : Hid ((acc ++ us.map (·.1)).length = 4 * wn * (i + 1 - 1)) := Lib.hid (by
              have h1 := Nat.mul_succ (4 * wn) (i - 1)
              rw [Nat.succ_eq_add_one, Nat.sub_add_cancel hi1] at h1
              rw [List.length_append, List.length_map, HAL.out, hul, Nat.add_sub_cancel]; omega)
            clear hrr Hr2 Hv hul
            go_wp2_with fail
            go_roundw
            case rel => exact ⟨i + 1, acc ++ us.map (·.1), va, vn, vc, by go_num, by omega, by omega, HLE.out, xR, xL, xF, ho, B1, HG⟩
            case measure => simp [intOf]; omega
          obtain ⟨x, hx⟩ : ∃ x, P[p]? = some x := ⟨_, List.getElem?_eq_getElem (by rw [Hnp.out]; exact hlt2)⟩
          have HX := Lib.hid hx
          have hxs := HS.out x (List.mem_of_getElem? hx)
          have pc : wr.cell? ⟨gP, p, none⟩ = some (.string x) := by
            rw [xP.all.1 p, List.getElem?_toArray, List.getElem?_map, hx]; rfl
          have hlP := xP.lt
          have hlF := xF.lt
          clear hx
          go_wp2_with fail
          refine (split_at x spB _ (E.below B1) hxs (by decide)).mono ?_
          obtain ⟨ws, hws⟩ : ∃ ws, spl spB x = ws := ⟨_, rfl⟩
          rw [hws]
          have HW := Lib.hid hws
          clear hws
          rintro e w10 ⟨rfl, xX, B2⟩
          obtain ⟨gX, hgX⟩ : ∃ g, g = wr.heap.size := ⟨_, rfl⟩
          rw [← hgX] at xX ⊢
          have hFX : gF ≠ gX := by omega
          replace xR := xR.keep B2
          replace xL := xL.keep B2
          replace xF := xF.keep B2
          replace xP := xP.keep B2
          replace ho := ho.below B2
          replace B1 := B1.trans (B2.mono B1.size)
          clear hgX B2 pc hlP hlF
          obtain ⟨k, hk⟩ : ∃ k, ws.length = k := ⟨_, rfl⟩
          rw [hk]
          by_cases hk4 : k = 4
          rotate_left
          · have hne4 : ((k : Int) != 4) = true := bne_iff_ne.2 (by omega)
            obtain rfl : badP (i : Int) 9 = R := row_bad Hr2.out HLI.out HLEN.out (by rw [rowR_none (by rw [HP.out]; exact row_none4 Hv.out HX.out (by rw [HW.out, hk]; exact hk4))]) (by decide) HRe.out
            clear Hr2 HRe HRW HLA HLI HLEN Hv
            go_wp2_with fail
            refine (ref_no _ _ _).mono ?_
            rintro e0 wn ⟨rfl, Bn⟩
            replace xR := xR.keep Bn
            replace B1 := B1.trans (Bn.mono B1.size)
            obtain ⟨qR9, fR9, lR9⟩ := xR.all
            go_wp2_with fail
            obtain ⟨qR, _, _⟩ := (frame_put xR (.int .i64 0) (.int .i64 0) (.int .i64 0) (.int .i64 0) (.slice none 0 0)).all
            refine bodyPost_ret (v := .tuple #[.agg #[.int .i64 0, .int .i64 0, .int .i64 0, .int .i64 0, .slice none 0 0], .int .i64 (i : Int), .int .i64 9]) (by simp [results, Tryd.results6, go_sem, qR]) rfl ⟨_, rfl, OutV.nil _ _ _, bput5 (by omega) B1⟩
          subst hk4
          have Hk := Lib.hid hk
          clear hk
          go_wp2_with fail
          go_loopw [16, 144] (fun bv qv wr => ∃ (q : Nat) (xs : List (Nat × Int)) (va : Option Addr) (vn vc : Nat), bv = .int .i64 (worst 0 (us ++ xs)) ∧ qv = .int .i64 (q : Int) ∧ q ≤ 4 ∧ xs.length = q ∧ Bx wr gR 27 #[.int .i64 0, .int .i64 0, .int .i64 0, .int .i64 0, .slice none 0 0] ∧ Bx wr gL 9 (L.map Value.string).toArray ∧ Bx wr gF 27 #[.int .i64 n1, .int .i64 n2, .int .i64 (wn : Int), .int .i64 (hn : Int), .slice va vn vc] ∧ Bx wr gP 9 (P.map Value.string).toArray ∧ Bx wr gX 9 (ws.map Value.string).toArray ∧ OutV W.heap.size wr 35 (.slice va vn vc) ((acc ++ (us ++ xs).map (·.1)).map fun b => .float .f32 b) ∧ Below W.heap.size W wr ∧ Hid (wordsV ws = (wordsV (ws.drop q)).map (xs ++ ·))) (fun _ qv _ => 4 - (intOf qv).toNat)
          case atStart => exact ⟨0, [], va, vn, vc, by rw [List.append_nil], rfl, Nat.zero_le _, rfl, xR, xL, xF, xP, xX, by rw [List.append_nil]; exact ho, B1, Lib.hid (by rw [List.drop_zero]; cases wordsV ws <;> rfl)⟩
          case round =>
            clear xR xL xF xP xX ho B1
            obtain ⟨q, xs, va, vn, vc, rfl, rfl, hq, hxl, xR, xL, xF, xP, xX, ho, B1, Hw⟩ := hrel
            by_cases hq4 : q < 4
            rotate_left
            · obtain rfl : q = 4 := by omega
              have HRN := Lib.hid (row_next Hv.out HX.out (by rw [HW.out]; exact Hk.out) (by rw [HW.out]; exact words_all4 Hw.out (by rw [Hk.out]; exact Nat.le_refl _)))
              clear Hw Hr2
              go_wp2_with fail
              go_roundw
              case rel => exact ⟨p + 1, us ++ xs, va, vn, vc, rfl, by go_num, by omega, by rw [List.length_append]; omega, xR, xL, xF, xP, ho, B1, HRN⟩
              case measure => simp [intOf]; omega
            obtain ⟨y, hy⟩ : ∃ y, ws[q]? = some y := ⟨_, List.getElem?_eq_getElem (by rw [Hk.out]; exact hq4)⟩
            have HY := Lib.hid hy
            have pc : wr.cell? ⟨gX, q, none⟩ = some (.string y) := by
              rw [xX.all.1 q, List.getElem?_toArray, List.getElem?_map, hy]; rfl
            have hlX := xX.lt
            obtain ⟨hv, he, hex⟩ : ∃ hv he, hexR y.data.toList = (hv, he) := ⟨_, _, rfl⟩
            have HE := Lib.hid hex
            clear hy hex
            go_wp2_with fail
            refine (ref_hexSingle y _).mono ?_
            rw [HE.out]
            rintro e w11 ⟨rfl, B2⟩
            replace xR := xR.keep B2
            replace xL := xL.keep B2
            replace xF := xF.keep B2
            replace xP := xP.keep B2
            replace xX := xX.keep B2
            replace ho := ho.below B2
            replace B1 := B1.trans (B2.mono B1.size)
            clear B2 pc hlX
            by_cases hne9 : he = 9
            · subst hne9
              obtain rfl : badP (i : Int) 9 = R := row_bad Hr2.out HLI.out HLEN.out (by rw [rowR_none (by rw [HP.out]; exact row_noneW Hv.out HX.out (by rw [HW.out]; exact wordsV_none Hw.out HY.out (by rw [HE.out])))]) (by decide) HRe.out
              clear Hr2 HRe HRW HLA HLI HLEN Hv Hw
              go_wp2_with fail
              refine (ref_no _ _ _).mono ?_
              rintro e0 wn ⟨rfl, Bn⟩
              replace xR := xR.keep Bn
              replace B1 := B1.trans (Bn.mono B1.size)
              obtain ⟨qR9, fR9, lR9⟩ := xR.all
              go_wp2_with fail
              obtain ⟨qR, _, _⟩ := (frame_put xR (.int .i64 0) (.int .i64 0) (.int .i64 0) (.int .i64 0) (.slice none 0 0)).all
              refine bodyPost_ret (v := .tuple #[.agg #[.int .i64 0, .int .i64 0, .int .i64 0, .int .i64 0, .slice none 0 0], .int .i64 (i : Int), .int .i64 9]) (by simp [results, Tryd.results6, go_sem, qR]) rfl ⟨_, rfl, OutV.nil _ _ _, bput5 (by omega) B1⟩
            have h9 : (he == 9) = false := beq_eq_false_iff_ne.2 hne9
            have hab : acc.length ≤ 262144 := by
              rw [HAL.out]
              have h1 : 4 * wn * (i - 1) ≤ 4 * 256 * 256 := Nat.mul_le_mul (by omega) (by omega)
              omega
            by_cases he0 : he = 0
            · subst he0
              go_upto_region 43 with fail
              refine name_world ?_
              intro wr0 hwr0
              rw [← hwr0] at ho B1 xR xL xF xP xX
              clear hwr0
              obtain ⟨qF, fF, lF⟩ := xF.all
              have xFa := Bx.alloc xF (.cells #[.float .f32 hv] 35)
              obtain ⟨qFa, fFa, lFa⟩ := xFa.all
              go_wp2_with (at_builtin; refine ov_append2 infoF Tryd.underlying25 rfl (x := .float .f32 hv) rfl (.tmp 166) (.tmp 168) rfl rfl wr0.heap.size 1 rfl (ho.below below_al) (Bx.new wr0 35 #[.float .f32 hv]) rfl ?aa ?ab ?ac ?_)
              case aa => rw [List.length_map, List.length_append, List.length_map, List.length_append]; omega
              case ab => rw [List.length_map, List.length_append, List.length_map, List.length_append]; omega
              case ac => exact Nat.le_trans B1.size below_al.size
              intro v5 w5 ho5 hb5 hx5
              have B5 := hb5 _ _ (Nat.le_refl _) (bnew B1)
              have xR5 := hx5 _ _ _ (by decide) (Bx.alloc xR (.cells #[.float .f32 hv] 35))
              have xL5 := hx5 _ _ _ (by decide) (Bx.alloc xL (.cells #[.float .f32 hv] 35))
              have xF5 := hx5 _ _ _ (by decide) xFa
              have xP5 := hx5 _ _ _ (by decide) (Bx.alloc xP (.cells #[.float .f32 hv] 35))
              have xX5 := hx5 _ _ _ (by decide) (Bx.alloc xX (.cells #[.float .f32 hv] 35))
              replace ho5 : OutV W.heap.size w5 35 v5 ((acc ++ (us ++ (xs ++ [(hv, 0)])).map (fun z : Nat × Int => z.1)).map fun b => .float .f32 b) := by simpa using ho5
              obtain ⟨wa, wm, wc, rfl⟩ : ∃ a n c, v5 = .slice a n c := by obtain ⟨a, c, h⟩ := ho5.form; exact ⟨a, _, c, h⟩
              clear hb5 hx5 ho B1 xR xL xF xP xX qF fF lF xFa qFa fFa lFa
              obtain ⟨qF, fF, lF⟩ := xF5.all
              have xF6 := xF5.set 4 (.slice wa wm wc)
              have HWN := Lib.hid (words_next Hw.out HY.out HE.out hne9)
              clear Hw Hr2
              go_wp2_with fail
              go_roundw
              case rel => exact ⟨q + 1, xs ++ [(hv, 0)], wa, wm, wc, by rw [worst_app, if_pos rfl], by go_num, by omega, by rw [List.length_append, hxl]; rfl, xR5.other _ _ hRF, xL5.other _ _ hLF, by simpa using xF6, xP5.other _ _ hFP.symm, xX5.other _ _ hFX.symm, ho5.putT xF5 (by decide), Below.set' hWF B5, HWN⟩
              case measure => simp [intOf]; omega
            · have h0 : (he != 0) = true := bne_iff_ne.2 he0
              go_upto_region 43 with fail
              refine name_world ?_
              intro wr0 hwr0
              rw [← hwr0] at ho B1 xR xL xF xP xX
              clear hwr0
              obtain ⟨qF, fF, lF⟩ := xF.all
              have xFa := Bx.alloc xF (.cells #[.float .f32 hv] 35)
              obtain ⟨qFa, fFa, lFa⟩ := xFa.all
              go_wp2_with (at_builtin; refine ov_append2 infoF Tryd.underlying25 rfl (x := .float .f32 hv) rfl (.tmp 166) (.tmp 168) rfl rfl wr0.heap.size 1 rfl (ho.below below_al) (Bx.new wr0 35 #[.float .f32 hv]) rfl ?ba ?bb ?bc ?_)
              case ba => rw [List.length_map, List.length_append, List.length_map, List.length_append]; omega
              case bb => rw [List.length_map, List.length_append, List.length_map, List.length_append]; omega
              case bc => exact Nat.le_trans B1.size below_al.size
              intro v5 w5 ho5 hb5 hx5
              have B5 := hb5 _ _ (Nat.le_refl _) (bnew B1)
              have xR5 := hx5 _ _ _ (by decide) (Bx.alloc xR (.cells #[.float .f32 hv] 35))
              have xL5 := hx5 _ _ _ (by decide) (Bx.alloc xL (.cells #[.float .f32 hv] 35))
              have xF5 := hx5 _ _ _ (by decide) xFa
              have xP5 := hx5 _ _ _ (by decide) (Bx.alloc xP (.cells #[.float .f32 hv] 35))
              have xX5 := hx5 _ _ _ (by decide) (Bx.alloc xX (.cells #[.float .f32 hv] 35))
              replace ho5 : OutV W.heap.size w5 35 v5 ((acc ++ (us ++ (xs ++ [(hv, he)])).map (fun z : Nat × Int => z.1)).map fun b => .float .f32 b) := by simpa using ho5
              obtain ⟨wa, wm, wc, rfl⟩ : ∃ a n c, v5 = .slice a n c := by obtain ⟨a, c, h⟩ := ho5.form; exact ⟨a, _, c, h⟩
              clear hb5 hx5 ho B1 xR xL xF xP xX qF fF lF xFa qFa fFa lFa
              obtain ⟨qF, fF, lF⟩ := xF5.all
              have xF6 := xF5.set 4 (.slice wa wm wc)
              have HWN := Lib.hid (words_next Hw.out HY.out HE.out hne9)
              clear Hw Hr2
              go_wp2_with fail
              go_roundw
              case rel => exact ⟨q + 1, xs ++ [(hv, he)], wa, wm, wc, by rw [worst_app, if_neg he0], by go_num, by omega, by rw [List.length_append, hxl]; rfl, xR5.other _ _ hRF, xL5.other _ _ hLF, by simpa using xF6, xP5.other _ _ hFP.symm, xX5.other _ _ hFX.symm, ho5.putT xF5 (by decide), Below.set' hWF B5, HWN⟩
              case measure => simp [intOf]; omega
end Go.Proofs.YtdcacijacmjjoaaDoor
