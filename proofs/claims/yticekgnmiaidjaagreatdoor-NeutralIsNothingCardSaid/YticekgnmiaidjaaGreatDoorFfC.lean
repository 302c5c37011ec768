/- internal/strconv: shortFloat of a single, walked. -/
import Derived.Test.YticekgnmiaidjaaGreatDoorFfB
namespace Go.Proofs.YticekgnmiaidjaaGreatDoor
open Go.RowKit

set_option maxRecDepth 100000 in
set_option maxHeartbeats 16000000 in
theorem sc_shortFloat (m : Nat) (e : Int) (ok : SfOk m e) (W : World) (E : EnvF W) :
    Calls Tryz.prog 207 #[.int .u64 (m : Int), .int .i64 e] W fun e' w' => e' = .returned (.tuple #[.int .u64 (shortF m e).1, .int .i64 (shortF m e).2]) ∧ Below W.heap.size W w' := by
  obtain ⟨c1, c2, c3, c4⟩ := ok.consts
  have hod := sfOdd_range m e
  have hzr := sfZ_range ok.e0
  obtain ⟨hm0, he0, he1, hm1⟩ := ok
  have hgG : 6 < W.heap.size := World.block_lt_of_cell? W _ (E.tab 0 (by decide)).1
  obtain ⟨P, hP⟩ : ∃ P, sfP m e = P := ⟨_, rfl⟩
  obtain ⟨OD, hOD⟩ : ∃ O, sfOdd m e = O := ⟨_, rfl⟩
  obtain ⟨MN, hMN⟩ : ∃ M, sfMin m e = M := ⟨_, rfl⟩
  obtain ⟨MX, hMX⟩ : ∃ M, sfMax m e = M := ⟨_, rfl⟩
  obtain ⟨I, hI⟩ : ∃ I, sfI m e = I := ⟨_, rfl⟩
  obtain ⟨S, hS⟩ : ∃ S, sfS m e = S := ⟨_, rfl⟩
  obtain ⟨R1, R2, hR⟩ : ∃ R1 R2, shortF m e = (R1, R2) := ⟨_, _, rfl⟩
  rw [hR]
  unfold shortF sfDmin sfDmax sfU at hR
  rw [hP, hOD, hMN, hMX, hI, hS] at hR
  rw [hP] at c1 c2 c3 c4
  rw [hOD] at hod
  have hIp : P + 348 = (I : Int) := by unfold sfI at hI; rw [hP] at hI; omega
  have hI2 : I < 696 := by omega
  have hSe : -(e + P * 108853 / 32768 + 3) = (S : Int) := by unfold sfS at hS; rw [hP] at hS; omega
  have hS64 : S < 64 := by omega
  have k40 : (2 : Nat) ^ 40 ≤ 2 ^ sfZ e := Nat.pow_le_pow_right (by decide) hzr.1
  have k39 : 2 ^ (sfZ e - 1) * 2 = 2 ^ sfZ e := by rw [← Nat.pow_succ]; congr 1; omega
  have hMNlt : MN < 18446744073709551616 := by
    rw [← hMN]; unfold sfMin; split <;> omega
  have hMXlt : MX < 18446744073709551616 := by rw [← hMX]; unfold sfMax; omega
  have hmlt : m < 18446744073709551616 := by omega
  have hwr : ∀ z : Int, 0 ≤ IntKind.u64.wrap z ∧ IntKind.u64.wrap z < 18446744073709551616 := fun z => by rw [IntKind.wrap_u64]; omega
  have KU1 : Hid (∀ G w, Bx w G 261 #[.int .u64 (tabHi I : Int), .int .u64 (tabLo I : Int), .int .i64 (S : Int)] → Calls Tryz.prog 236 #[.int .u64 (MN : Int), .pointer (some ⟨G, 0, none⟩)] w fun e w' => e = .returned (.int .u64 (uscF MN (tabHi I) (tabLo I) S)) ∧ Below w.heap.size w w') := Lib.hid fun G w x => sc_uscale G MN _ _ S w x hMNlt (tabHi_lt I) (tabLo_lt I) hS64
  have KU2 : Hid (∀ G w, Bx w G 261 #[.int .u64 (tabHi I : Int), .int .u64 (tabLo I : Int), .int .i64 (S : Int)] → Calls Tryz.prog 236 #[.int .u64 (MX : Int), .pointer (some ⟨G, 0, none⟩)] w fun e w' => e = .returned (.int .u64 (uscF MX (tabHi I) (tabLo I) S)) ∧ Below w.heap.size w w') := Lib.hid fun G w x => sc_uscale G MX _ _ S w x hMXlt (tabHi_lt I) (tabLo_lt I) hS64
  have KU3 : Hid (∀ G w, Bx w G 261 #[.int .u64 (tabHi I : Int), .int .u64 (tabLo I : Int), .int .i64 (S : Int)] → Calls Tryz.prog 236 #[.int .u64 (m : Int), .pointer (some ⟨G, 0, none⟩)] w fun e w' => e = .returned (.int .u64 (uscF m (tabHi I) (tabLo I) S)) ∧ Below w.heap.size w w') := Lib.hid fun G w x => sc_uscale G m _ _ S w x hmlt (tabHi_lt I) (tabLo_lt I) hS64
  generalize uscF MN (tabHi I) (tabLo I) S = U1 at *
  generalize uscF MX (tabHi I) (tabLo I) S = U2 at *
  generalize uscF m (tabHi I) (tabLo I) S = U3 at *
  have KN1 := Lib.hid (fun w => un_nudge U1 OD w)
  have KN2 := Lib.hid (fun w => un_nudge U2 (-OD) w)
  have hN2 := hwr (U2 + IntKind.u64.wrap (-OD))
  generalize IntKind.u64.wrap (U1 + IntKind.u64.wrap OD) = N1 at *
  generalize IntKind.u64.wrap (U2 + IntKind.u64.wrap (-OD)) = N2 at *
  have KC := Lib.hid (fun w => un_ceil N1 w)
  have KF := Lib.hid (fun w => un_floor N2 w hN2.1 hN2.2)
  have KRo := Lib.hid (fun w => un_round U3 w)
  have hDN : 0 ≤ IntKind.u64.wrap (N1 + 3) / 4 := by have := hwr (N1 + 3); omega
  generalize IntKind.u64.wrap (N1 + 3) / 4 = DN at *
  obtain ⟨DX, hDX⟩ : ∃ D : Nat, N2 / 4 = (D : Int) := ⟨(N2 / 4).toNat, by omega⟩
  have hDXlt : DX < 4611686018427387904 := by omega
  rw [hDX] at KF hR
  generalize roundU U3 = R3 at *
  have hw10 : IntKind.u64.wrap ((DX : Int) / 10 * 10) = (DX : Int) / 10 * 10 := by rw [IntKind.wrap_u64]; omega
  rw [hw10] at hR
  have HR := Lib.hid hR
  clear hR hI hS hDX hN2 hwr
  have hcase : (∃ b1 b2 : Bool, ((m : Int) == 9223372036854775808) = b1 ∧ decide (-189 < e) = b2) := ⟨_, _, rfl, rfl⟩
  obtain ⟨b1, b2, hb1, hb2⟩ := hcase
  have hsk : sfSk m e = (b1 && b2) := by
    unfold sfSk
    rw [hb2, ← hb1]
    congr 1
    rw [Bool.eq_iff_iff, decide_eq_true_iff, beq_iff_eq]
    omega
  by_cases h18 : -189 ≤ e
  · have hZ : sfZ e = 40 := by unfold sfZ; rw [if_pos h18]
    have hod2 : bits .and .i64 (wrap64 ((m : Int) / 1099511627776)) 1 = OD := by
      have h40 : (2 : Int) ^ 40 = 1099511627776 := by simp
      rw [← hOD]; unfold sfOdd; rw [hZ, h40]
    have hod3 : bits .and .i64 ((m : Int) / 1099511627776) 1 = OD := by
      rw [← hod2]; congr 1; unfold wrap64; omega
    have hmx2 : IntKind.u64.wrap ((m : Int) + 549755813888) = (MX : Int) := by
      unfold sfMax at hMX; rw [hZ] at hMX
      rw [IntKind.wrap_u64]; omega
    rw [hZ] at k40 k39 hm1
    cases hbb : (b1 && b2)
    · rw [hbb] at hsk
      have hp2 : -((e + 40) * 78913 / 262144) = P := by rw [← hP]; unfold sfP; rw [hsk, hZ, if_neg (by simp)]; omega
      have hmn2 : IntKind.u64.wrap ((m : Int) - 549755813888) = (MN : Int) := by
        unfold sfMin at hMN; rw [hsk, hZ] at hMN
        rw [if_neg (by simp)] at hMN
        rw [IntKind.wrap_u64]; omega
      clear hsk hMN hMX hP hOD hZ k40 k39 hm1
      cases b1 <;> cases b2 <;> simp only [Bool.and_true, Bool.and_false, Bool.true_and, Bool.false_and, Bool.true_eq_false, reduceCtorEq] at hbb
      all_goals
        clear hbb
        go_enter Tryz.func207, Tryz.ntmps207
        go_wp2_with fail
        refine (sc_log10Pow2 _ _ (by omega)).mono ?_
        rintro e' w1 ⟨rfl, rfl⟩
        go_upto_region 27 with fail
        clear hod2 hmn2 hmx2
        try clear hod3
        try clear hp2
        try clear hKi hZe hZ2 h18b hzr
        clear hb1 hb2 hMNlt hMXlt hmlt hm0 hw10
        go_upto_region 28 with fail
        refine name_world ?_
        intro w2 hw2
        have x12 : Bx w2 w1.heap.size 261 #[.int .u64 0, .int .u64 0, .int .i64 0] := by rw [hw2]; exact Bx.new _ _ _
        have B2 : Below w1.heap.size w1 w2 := by rw [hw2]; exact bnew (Below.refl _ _)
        have E2 := Lib.hid (E.below B2)
        clear hw2 E
        generalize hG : w1.heap.size = G at *
        have HG := Lib.hid hG
        clear hG
        go_wp2_with fail
        refine (sc_log2Pow10 _ _ (by omega)).mono ?_
        rintro e' w3 ⟨rfl, rfl⟩
        go_wp2_with fail
        refine (sc_prescale G e _ _ I _ _ _ w3 E2.out x12 hIp hI2 hgG (by omega) (by omega)).mono ?_
        rintro e' w4 ⟨rfl, x4, b4⟩
        rw [hSe] at x4
        have B4 : Below G w1 w4 := B2.trans b4
        clear x12 B2 b4 E2 hSe hIp hI2 hS64 c3 c4
        go_wp2_with fail
        refine (KU1.out G _ x4).mono ?_
        rintro e' w5 ⟨rfl, b5⟩
        have x5 := x4.keep b5
        have B5 : Below G w1 w5 := B4.trans (b5.mono (by have := x4.lt; omega))
        clear x4 b5 B4 KU1
        go_wp2_with fail
        refine (KN1.out _).mono ?_
        rintro e' w6 ⟨rfl, rfl⟩
        go_wp2_with fail
        refine (KC.out _).mono ?_
        rintro e' w7 ⟨rfl, rfl⟩
        clear KN1 KC
        go_wp2_with fail
        refine (KU2.out G _ x5).mono ?_
        rintro e' w8 ⟨rfl, b8⟩
        have x8 := x5.keep b8
        have B8 : Below G w1 w8 := B5.trans (b8.mono (by have := x5.lt; omega))
        clear x5 b8 B5 KU2
        go_wp2_with fail
        refine (KN2.out _).mono ?_
        rintro e' w9 ⟨rfl, rfl⟩
        go_wp2_with fail
        refine (KF.out _).mono ?_
        rintro e' w10 ⟨rfl, rfl⟩
        clear KN2 KF
        by_cases g1 : DN ≤ (DX : Int) / 10 * 10
        · have HR1 : Hid (R1 = (DX : Int) / 10 ∧ R2 = -(P - 1)) := Lib.hid (by
            have := HR.out
            rw [if_pos g1] at this
            exact ⟨(Prod.mk.inj this).1.symm, (Prod.mk.inj this).2.symm⟩)
          have d1 : decide (DN ≤ (DX : Int) / 10 * 10) = true := decide_eq_true g1
          clear HR KU3 KRo
          go_wp2_with fail
          go_ret2
          refine ⟨?_, by rw [HG.out]; exact B8⟩
          rw [HR1.out.1, HR1.out.2]
          first | rfl | simp
        · have d1 : decide (DN ≤ (DX : Int) / 10 * 10) = false := decide_eq_false g1
          by_cases g2 : DN < (DX : Int)
          · have HR1 : Hid (R1 = R3 ∧ R2 = -P) := Lib.hid (by
              have := HR.out
              rw [if_neg g1, if_pos g2] at this
              exact ⟨(Prod.mk.inj this).1.symm, (Prod.mk.inj this).2.symm⟩)
            have d2 : decide (DN < (DX : Int)) = true := decide_eq_true g2
            clear HR
            go_wp2_with fail
            refine (KU3.out G _ x8).mono ?_
            rintro e' w11 ⟨rfl, b11⟩
            have B11 : Below G w1 w11 := B8.trans (b11.mono (by have := x8.lt; omega))
            go_wp2_with fail
            refine (KRo.out _).mono ?_
            rintro e' w12 ⟨rfl, rfl⟩
            go_wp2_with fail
            go_ret2
            refine ⟨?_, by rw [HG.out]; exact B11⟩
            rw [HR1.out.1, HR1.out.2]
            first | rfl | simp
          · have HR1 : Hid (R1 = DN ∧ R2 = -P) := Lib.hid (by
              have := HR.out
              rw [if_neg g1, if_neg g2] at this
              exact ⟨(Prod.mk.inj this).1.symm, (Prod.mk.inj this).2.symm⟩)
            have d2 : decide (DN < (DX : Int)) = false := decide_eq_false g2
            clear HR KU3 KRo
            go_wp2_with fail
            go_ret2
            refine ⟨?_, by rw [HG.out]; exact B8⟩
            rw [HR1.out.1, HR1.out.2]
            first | rfl | simp
    · rw [hbb] at hsk
      have hp2 : -(((e + 40) * 631305 - 261663) / 2097152) = P := by rw [← hP]; unfold sfP; rw [hsk, if_pos rfl]
      have hmn2 : IntKind.u64.wrap ((m : Int) - 274877906944) = (MN : Int) := by
        unfold sfMin at hMN; rw [hsk] at hMN
        rw [if_pos rfl] at hMN
        rw [IntKind.wrap_u64]; omega
      clear hsk hMN hMX hP hOD hZ k40 k39 hm1
      obtain ⟨rfl, rfl⟩ : b1 = true ∧ b2 = true := by simpa using hbb
      clear hbb
      go_enter Tryz.func207, Tryz.ntmps207
      go_wp2_with fail
      refine (sc_skewed _ _ (by omega)).mono ?_
      rintro e' w1 ⟨rfl, rfl⟩
      go_upto_region 27 with fail
      clear hod2 hmn2 hmx2
      try clear hod3
      try clear hp2
      try clear hKi hZe hZ2 h18b hzr
      clear hb1 hb2 hMNlt hMXlt hmlt hm0 hw10
      go_upto_region 28 with fail
      refine name_world ?_
      intro w2 hw2
      have x12 : Bx w2 w1.heap.size 261 #[.int .u64 0, .int .u64 0, .int .i64 0] := by rw [hw2]; exact Bx.new _ _ _
      have B2 : Below w1.heap.size w1 w2 := by rw [hw2]; exact bnew (Below.refl _ _)
      have E2 := Lib.hid (E.below B2)
      clear hw2 E
      generalize hG : w1.heap.size = G at *
      have HG := Lib.hid hG
      clear hG
      go_wp2_with fail
      refine (sc_log2Pow10 _ _ (by omega)).mono ?_
      rintro e' w3 ⟨rfl, rfl⟩
      go_wp2_with fail
      refine (sc_prescale G e _ _ I _ _ _ w3 E2.out x12 hIp hI2 hgG (by omega) (by omega)).mono ?_
      rintro e' w4 ⟨rfl, x4, b4⟩
      rw [hSe] at x4
      have B4 : Below G w1 w4 := B2.trans b4
      clear x12 B2 b4 E2 hSe hIp hI2 hS64 c3 c4
      go_wp2_with fail
      refine (KU1.out G _ x4).mono ?_
      rintro e' w5 ⟨rfl, b5⟩
      have x5 := x4.keep b5
      have B5 : Below G w1 w5 := B4.trans (b5.mono (by have := x4.lt; omega))
      clear x4 b5 B4 KU1
      go_wp2_with fail
      refine (KN1.out _).mono ?_
      rintro e' w6 ⟨rfl, rfl⟩
      go_wp2_with fail
      refine (KC.out _).mono ?_
      rintro e' w7 ⟨rfl, rfl⟩
      clear KN1 KC
      go_wp2_with fail
      refine (KU2.out G _ x5).mono ?_
      rintro e' w8 ⟨rfl, b8⟩
      have x8 := x5.keep b8
      have B8 : Below G w1 w8 := B5.trans (b8.mono (by have := x5.lt; omega))
      clear x5 b8 B5 KU2
      go_wp2_with fail
      refine (KN2.out _).mono ?_
      rintro e' w9 ⟨rfl, rfl⟩
      go_wp2_with fail
      refine (KF.out _).mono ?_
      rintro e' w10 ⟨rfl, rfl⟩
      clear KN2 KF
      by_cases g1 : DN ≤ (DX : Int) / 10 * 10
      · have HR1 : Hid (R1 = (DX : Int) / 10 ∧ R2 = -(P - 1)) := Lib.hid (by
          have := HR.out
          rw [if_pos g1] at this
          exact ⟨(Prod.mk.inj this).1.symm, (Prod.mk.inj this).2.symm⟩)
        have d1 : decide (DN ≤ (DX : Int) / 10 * 10) = true := decide_eq_true g1
        clear HR KU3 KRo
        go_wp2_with fail
        go_ret2
        refine ⟨?_, by rw [HG.out]; exact B8⟩
        rw [HR1.out.1, HR1.out.2]
        first | rfl | simp
      · have d1 : decide (DN ≤ (DX : Int) / 10 * 10) = false := decide_eq_false g1
        by_cases g2 : DN < (DX : Int)
        · have HR1 : Hid (R1 = R3 ∧ R2 = -P) := Lib.hid (by
            have := HR.out
            rw [if_neg g1, if_pos g2] at this
            exact ⟨(Prod.mk.inj this).1.symm, (Prod.mk.inj this).2.symm⟩)
          have d2 : decide (DN < (DX : Int)) = true := decide_eq_true g2
          clear HR
          go_wp2_with fail
          refine (KU3.out G _ x8).mono ?_
          rintro e' w11 ⟨rfl, b11⟩
          have B11 : Below G w1 w11 := B8.trans (b11.mono (by have := x8.lt; omega))
          go_wp2_with fail
          refine (KRo.out _).mono ?_
          rintro e' w12 ⟨rfl, rfl⟩
          go_wp2_with fail
          go_ret2
          refine ⟨?_, by rw [HG.out]; exact B11⟩
          rw [HR1.out.1, HR1.out.2]
          first | rfl | simp
        · have HR1 : Hid (R1 = DN ∧ R2 = -P) := Lib.hid (by
            have := HR.out
            rw [if_neg g1, if_neg g2] at this
            exact ⟨(Prod.mk.inj this).1.symm, (Prod.mk.inj this).2.symm⟩)
          have d2 : decide (DN < (DX : Int)) = false := decide_eq_false g2
          clear HR KU3 KRo
          go_wp2_with fail
          go_ret2
          refine ⟨?_, by rw [HG.out]; exact B8⟩
          rw [HR1.out.1, HR1.out.2]
          first | rfl | simp
  · obtain ⟨Z, hZ⟩ : ∃ Z, sfZ e = Z := ⟨_, rfl⟩
    have hZe : 40 + (-189 - e) = (Z : Int) := by
      rw [← hZ]; unfold sfZ; rw [if_neg h18]; omega
    have hZ2 : e + (Z : Int) = -149 := by omega
    obtain rfl : b2 = false := by rw [← hb2]; exact decide_eq_false (by omega)
    have h18b : decide (-189 ≤ e) = false := decide_eq_false h18
    rw [hZ] at k40 k39 hm1 hzr
    rw [Bool.and_false] at hsk
    obtain ⟨K, hK⟩ : ∃ K : Nat, 2 ^ (Z - 1) = K := ⟨_, rfl⟩
    have hKi : IntKind.u64.wrap ((2 : Int) ^ (Z - 1)) = (K : Int) := by
      rw [← hK]
      have : (2 : Int) ^ (Z - 1) = ((2 ^ (Z - 1) : Nat) : Int) := by simp
      rw [this, IntKind.wrap_u64]; omega
    have hod2 : bits .and .i64 (wrap64 ((m : Int) / 2 ^ Z)) 1 = OD := by rw [← hOD]; unfold sfOdd; rw [hZ]
    have hmn2 : IntKind.u64.wrap ((m : Int) - (K : Int)) = (MN : Int) := by
      unfold sfMin at hMN; rw [hsk, hZ, hK, if_neg (by simp)] at hMN
      rw [IntKind.wrap_u64]; omega
    have hmx2 : IntKind.u64.wrap ((m : Int) + (K : Int)) = (MX : Int) := by
      unfold sfMax at hMX; rw [hZ, hK] at hMX
      rw [IntKind.wrap_u64]; omega
    have hp2 : (45 : Int) = P := by
      rw [← hP]; unfold sfP; rw [hsk, hZ]
      have : e + (Z : Int) = -149 := hZ2
      rw [if_neg (by simp), this]; omega
    subst hp2
    replace hSe : -(e + 149 + 3) = (S : Int) := by omega
    clear hsk hMN hMX hP hOD hZ k40 k39 hm1 hK h18
    cases b1
    all_goals
      go_enter Tryz.func207, Tryz.ntmps207
      go_wp2_with fail
      refine (sc_log10Pow2 _ _ (by omega)).mono ?_
      rintro e' w1 ⟨rfl, rfl⟩
      go_upto_region 27 with fail
      clear hod2 hmn2 hmx2
      try clear hod3
      try clear hp2
      try clear hKi hZe hZ2 h18b hzr
      clear hb1 hb2 hMNlt hMXlt hmlt hm0 hw10
      go_upto_region 28 with fail
      refine name_world ?_
      intro w2 hw2
      have x12 : Bx w2 w1.heap.size 261 #[.int .u64 0, .int .u64 0, .int .i64 0] := by rw [hw2]; exact Bx.new _ _ _
      have B2 : Below w1.heap.size w1 w2 := by rw [hw2]; exact bnew (Below.refl _ _)
      have E2 := Lib.hid (E.below B2)
      clear hw2 E
      generalize hG : w1.heap.size = G at *
      have HG := Lib.hid hG
      clear hG
      go_wp2_with fail
      refine (sc_log2Pow10 _ _ (by omega)).mono ?_
      rintro e' w3 ⟨rfl, rfl⟩
      go_wp2_with fail
      refine (sc_prescale G e _ _ I _ _ _ w3 E2.out x12 hIp hI2 hgG (by omega) (by omega)).mono ?_
      rintro e' w4 ⟨rfl, x4, b4⟩
      rw [hSe] at x4
      have B4 : Below G w1 w4 := B2.trans b4
      clear x12 B2 b4 E2 hSe hIp hI2 hS64 c3 c4
      go_wp2_with fail
      refine (KU1.out G _ x4).mono ?_
      rintro e' w5 ⟨rfl, b5⟩
      have x5 := x4.keep b5
      have B5 : Below G w1 w5 := B4.trans (b5.mono (by have := x4.lt; omega))
      clear x4 b5 B4 KU1
      go_wp2_with fail
      refine (KN1.out _).mono ?_
      rintro e' w6 ⟨rfl, rfl⟩
      go_wp2_with fail
      refine (KC.out _).mono ?_
      rintro e' w7 ⟨rfl, rfl⟩
      clear KN1 KC
      go_wp2_with fail
      refine (KU2.out G _ x5).mono ?_
      rintro e' w8 ⟨rfl, b8⟩
      have x8 := x5.keep b8
      have B8 : Below G w1 w8 := B5.trans (b8.mono (by have := x5.lt; omega))
      clear x5 b8 B5 KU2
      go_wp2_with fail
      refine (KN2.out _).mono ?_
      rintro e' w9 ⟨rfl, rfl⟩
      go_wp2_with fail
      refine (KF.out _).mono ?_
      rintro e' w10 ⟨rfl, rfl⟩
      clear KN2 KF
      by_cases g1 : DN ≤ (DX : Int) / 10 * 10
      · have HR1 : Hid (R1 = (DX : Int) / 10 ∧ R2 = -(45 - 1)) := Lib.hid (by
          have := HR.out
          rw [if_pos g1] at this
          exact ⟨(Prod.mk.inj this).1.symm, (Prod.mk.inj this).2.symm⟩)
        have d1 : decide (DN ≤ (DX : Int) / 10 * 10) = true := decide_eq_true g1
        clear HR KU3 KRo
        go_wp2_with fail
        go_ret2
        refine ⟨?_, by rw [HG.out]; exact B8⟩
        rw [HR1.out.1, HR1.out.2]
        first | rfl | simp
      · have d1 : decide (DN ≤ (DX : Int) / 10 * 10) = false := decide_eq_false g1
        by_cases g2 : DN < (DX : Int)
        · have HR1 : Hid (R1 = R3 ∧ R2 = -45) := Lib.hid (by
            have := HR.out
            rw [if_neg g1, if_pos g2] at this
            exact ⟨(Prod.mk.inj this).1.symm, (Prod.mk.inj this).2.symm⟩)
          have d2 : decide (DN < (DX : Int)) = true := decide_eq_true g2
          clear HR
          go_wp2_with fail
          refine (KU3.out G _ x8).mono ?_
          rintro e' w11 ⟨rfl, b11⟩
          have B11 : Below G w1 w11 := B8.trans (b11.mono (by have := x8.lt; omega))
          go_wp2_with fail
          refine (KRo.out _).mono ?_
          rintro e' w12 ⟨rfl, rfl⟩
          go_wp2_with fail
          go_ret2
          refine ⟨?_, by rw [HG.out]; exact B11⟩
          rw [HR1.out.1, HR1.out.2]
          first | rfl | simp
        · have HR1 : Hid (R1 = DN ∧ R2 = -45) := Lib.hid (by
            have := HR.out
            rw [if_neg g1, if_neg g2] at this
            exact ⟨(Prod.mk.inj this).1.symm, (Prod.mk.inj this).2.symm⟩)
          have d2 : decide (DN < (DX : Int)) = false := decide_eq_false g2
          clear HR KU3 KRo
          go_wp2_with fail
          go_ret2
          refine ⟨?_, by rw [HG.out]; exact B8⟩
          rw [HR1.out.1, HR1.out.2]
          first | rfl | simp
end Go.Proofs.YticekgnmiaidjaaGreatDoor
