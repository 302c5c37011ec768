/- Bytes that a call gathers beside a block that is only read. -/
import Derived.Test.YticekgnmiaidjaaGreatDoorFfB
import Derived.OwnWalk
namespace Go.Proofs.YticekgnmiaidjaaGreatDoor

section
open Go.RowKit

set_option maxRecDepth 100000 in
set_option maxHeartbeats 16000000 in
theorem sc_shortFloat (m : Nat) (e : Int) (ok : SfOk m e) (W : World) (E : EnvF W) :
    Calls Tryz.prog 207 #[.int .u64 (m : Int), .int .i64 e] W fun e' w' => e' = .returned (.tuple #[.int .u64 (shortF m e).1, .int .i64 (shortF m e).2]) ∧ Below W.heap.size W w' := by
  obtain ⟨c1, c2, c3, c4⟩ := ok.consts
  have hod := sfOdd_range m e
  have hzr := sfZ_range ok.e0
  obtain ⟨hm0, he0, he1, hm1⟩ := ok
  have hgG : 6 < W.heap.size := World.block_lt_of_cell? W _ (E.tab 0 (by decide)).1
  obtain ⟨P, hP⟩ : ∃ P, sfP m e = P := ⟨_, rfl⟩
  obtain ⟨OD, hOD⟩ : ∃ O, sfOdd m e = O := ⟨_, rfl⟩
  obtain ⟨MN, hMN⟩ : ∃ M, sfMin m e = M := ⟨_, rfl⟩
  obtain ⟨MX, hMX⟩ : ∃ M, sfMax m e = M := ⟨_, rfl⟩
  obtain ⟨I, hI⟩ : ∃ I, sfI m e = I := ⟨_, rfl⟩
  obtain ⟨S, hS⟩ : ∃ S, sfS m e = S := ⟨_, rfl⟩
  obtain ⟨R1, R2, hR⟩ : ∃ R1 R2, shortF m e = (R1, R2) := ⟨_, _, rfl⟩
  rw [hR]
  unfold shortF sfDmin sfDmax sfU at hR
  rw [hP, hOD, hMN, hMX, hI, hS] at hR
  rw [hP] at c1 c2 c3 c4
  rw [hOD] at hod
  have hIp : P + 348 = (I : Int) := by unfold sfI at hI; rw [hP] at hI; omega
  have hI2 : I < 696 := by omega
  have hSe : -(e + P * 108853 / 32768 + 3) = (S : Int) := by unfold sfS at hS; rw [hP] at hS; omega
  have hS64 : S < 64 := by omega
  have k40 : (2 : Nat) ^ 40 ≤ 2 ^ sfZ e := Nat.pow_le_pow_right (by decide) hzr.1
  have k39 : 2 ^ (sfZ e - 1) * 2 = 2 ^ sfZ e := by rw [← Nat.pow_succ]; congr 1; omega
  have hMNlt : MN < 18446744073709551616 := by
    rw [← hMN]; unfold sfMin; split <;> omega
  have hMXlt : MX < 18446744073709551616 := by rw [← hMX]; unfold sfMax; omega
  have hmlt : m < 18446744073709551616 := by omega
  have hwr : ∀ z : Int, 0 ≤ IntKind.u64.wrap z ∧ IntKind.u64.wrap z < 18446744073709551616 := fun z => by rw [IntKind.wrap_u64]; omega
  have KU1 : Hid (∀ G w, Bx w G 261 #[.int .u64 (tabHi I : Int), .int .u64 (tabLo I : Int), .int .i64 (S : Int)] → Calls Tryz.prog 236 #[.int .u64 (MN : Int), .pointer (some ⟨G, 0, none⟩)] w fun e w' => e = .returned (.int .u64 (uscF MN (tabHi I) (tabLo I) S)) ∧ Below w.heap.size w w') := Lib.hid fun G w x => sc_uscale G MN _ _ S w x hMNlt (tabHi_lt I) (tabLo_lt I) hS64
  have KU2 : Hid (∀ G w, Bx w G 261 #[.int .u64 (tabHi I : Int), .int .u64 (tabLo I : Int), .int .i64 (S : Int)] → Calls Tryz.prog 236 #[.int .u64 (MX : Int), .pointer (some ⟨G, 0, none⟩)] w fun e w' => e = .returned (.int .u64 (uscF MX (tabHi I) (tabLo I) S)) ∧ Below w.heap.size w w') := Lib.hid fun G w x => sc_uscale G MX _ _ S w x hMXlt (tabHi_lt I) (tabLo_lt I) hS64
  have KU3 : Hid (∀ G w, Bx w G 261 #[.int .u64 (tabHi I : Int), .int .u64 (tabLo I : Int), .int .i64 (S : Int)] → Calls Tryz.prog 236 #[.int .u64 (m : Int), .pointer (some ⟨G, 0, none⟩)] w fun e w' => e = .returned (.int .u64 (uscF m (tabHi I) (tabLo I) S)) ∧ Below w.heap.size w w') := Lib.hid fun G w x => sc_uscale G m _ _ S w x hmlt (tabHi_lt I) (tabLo_lt I) hS64
  generalize uscF MN (tabHi I) (tabLo I) S = U1 at *
  generalize uscF MX (tabHi I) (tabLo I) S = U2 at *
  generalize uscF m (tabHi I) (tabLo I) S = U3 at *
  have KN1 := Lib.hid (fun w => un_nudge U1 OD w)
  have KN2 := Lib.hid (fun w => un_nudge U2 (-OD) w)
  have hN2 := hwr (U2 + IntKind.u64.wrap (-OD))
  generalize IntKind.u64.wrap (U1 + IntKind.u64.wrap OD) = N1 at *
  generalize IntKind.u64.wrap (U2 + IntKind.u64.wrap (-OD)) = N2 at *
  have KC := Lib.hid (fun w => un_ceil N1 w)
  have KF := Lib.hid (fun w => un_floor N2 w hN2.1 hN2.2)
  have KRo := Lib.hid (fun w => un_round U3 w)
  have hDN : 0 ≤ IntKind.u64.wrap (N1 + 3) / 4 := by have := hwr (N1 + 3); omega
  generalize IntKind.u64.wrap (N1 + 3) / 4 = DN at *
  obtain ⟨DX, hDX⟩ : ∃ D : Nat, N2 / 4 = (D : Int) := ⟨(N2 / 4).toNat, by omega⟩
  have hDXlt : DX < 4611686018427387904 := by omega
  rw [hDX] at KF hR
  generalize roundU U3 = R3 at *
  have hw10 : IntKind.u64.wrap ((DX : Int) / 10 * 10) = (DX : Int) / 10 * 10 := by rw [IntKind.wrap_u64]; omega
  rw [hw10] at hR
  have HR := Lib.hid hR
  clear hR hI hS hDX hN2 hwr
  have hcase : (∃ b1 b2 : Bool, ((m : Int) == 9223372036854775808) = b1 ∧ decide (-189 < e) = b2) := ⟨_, _, rfl, rfl⟩
  obtain ⟨b1, b2, hb1, hb2⟩ := hcase
  have hsk : sfSk m e = (b1 && b2) := by
    unfold sfSk
    rw [hb2, ← hb1]
    congr 1
    rw [Bool.eq_iff_iff, decide_eq_true_iff, beq_iff_eq]
    omega
  by_cases h18 : -189 ≤ e
  · have hZ : sfZ e = 40 := by unfold sfZ; rw [if_pos h18]
    have hod2 : bits .and .i64 (wrap64 ((m : Int) / 1099511627776)) 1 = OD := by
      have h40 : (2 : Int) ^ 40 = 1099511627776 := by simp
      rw [← hOD]; unfold sfOdd; rw [hZ, h40]
    have hod3 : bits .and .i64 ((m : Int) / 1099511627776) 1 = OD := by
      rw [← hod2]; congr 1; unfold wrap64; omega
    have hmx2 : IntKind.u64.wrap ((m : Int) + 549755813888) = (MX : Int) := by
      unfold sfMax at hMX; rw [hZ] at hMX
      rw [IntKind.wrap_u64]; omega
    rw [hZ] at k40 k39 hm1
    cases hbb : (b1 && b2)
    · rw [hbb] at hsk
      have hp2 : -((e + 40) * 78913 / 262144) = P := by rw [← hP]; unfold sfP; rw [hsk, hZ, if_neg (by simp)]; omega
      have hmn2 : IntKind.u64.wrap ((m : Int) - 549755813888) = (MN : Int) := by
        unfold sfMin at hMN; rw [hsk, hZ] at hMN
        rw [if_neg (by simp)] at hMN
        rw [IntKind.wrap_u64]; omega
      clear hsk hMN hMX hP hOD hZ k40 k39 hm1
      cases b1 <;> cases b2 <;> simp only [Bool.and_true, Bool.and_false, Bool.true_and, Bool.false_and, Bool.true_eq_false, reduceCtorEq] at hbb
      all_goals
        clear hbb
        go_enter Tryz.func207, Tryz.ntmps207
        go_wp2_with fail
        refine (sc_log10Pow2 _ _ (by omega)).mono ?_
        rintro e' w1 ⟨rfl, rfl⟩
        go_upto_region 27 with fail
        clear hod2 hmn2 hmx2
        try clear hod3
        try clear hp2
        try clear hKi hZe hZ2 h18b hzr
        clear hb1 hb2 hMNlt hMXlt hmlt hm0 hw10
        go_upto_region 28 with fail
        refine name_world ?_
        intro w2 hw2
        have x12 : Bx w2 w1.heap.size 261 #[.int .u64 0, .int .u64 0, .int .i64 0] := by rw [hw2]; exact Bx.new _ _ _
        have B2 : Below w1.heap.size w1 w2 := by rw [hw2]; exact bnew (Below.refl _ _)
        have E2 := Lib.hid (E.below B2)
        clear hw2 E
        generalize hG : w1.heap.size = G at *
        have HG := Lib.hid hG
        clear hG
        go_wp2_with fail
        refine (sc_log2Pow10 _ _ (by omega)).mono ?_
        rintro e' w3 ⟨rfl, rfl⟩
        go_wp2_with fail
        refine (sc_prescale G e _ _ I _ _ _ w3 E2.out x12 hIp hI2 hgG (by omega) (by omega)).mono ?_
        rintro e' w4 ⟨rfl, x4, b4⟩
        rw [hSe] at x4
        have B4 : Below G w1 w4 := B2.trans b4
        clear x12 B2 b4 E2 hSe hIp hI2 hS64 c3 c4
        go_wp2_with fail
        refine (KU1.out G _ x4).mono ?_
        rintro e' w5 ⟨rfl, b5⟩
        have x5 := x4.keep b5
        have B5 : Below G w1 w5 := B4.trans (b5.mono (by have := x4.lt; omega))
        clear x4 b5 B4 KU1
        go_wp2_with fail
        refine (KN1.out _).mono ?_
        rintro e' w6 ⟨rfl, rfl⟩
        go_wp2_with fail
        refine (KC.out _).mono ?_
        rintro e' w7 ⟨rfl, rfl⟩
        clear KN1 KC
        go_wp2_with fail
        refine (KU2.out G _ x5).mono ?_
        rintro e' w8 ⟨rfl, b8⟩
        have x8 := x5.keep b8
        have B8 : Below G w1 w8 := B5.trans (b8.mono (by have := x5.lt; omega))
        clear x5 b8 B5 KU2
        go_wp2_with fail
        refine (KN2.out _).mono ?_
        rintro e' w9 ⟨rfl, rfl⟩
        go_wp2_with fail
        refine (KF.out _).mono ?_
        rintro e' w10 ⟨rfl, rfl⟩
        clear KN2 KF
        by_cases g1 : DN ≤ (DX : Int) / 10 * 10
        · have HR1 : Hid (R1 = (DX : Int) / 10 ∧ R2 = -(P - 1)) := Lib.hid (by
            have := HR.out
            rw [if_pos g1] at this
            exact ⟨(Prod.mk.inj this).1.symm, (Prod.mk.inj this).2.symm⟩)
          have d1 : decide (DN ≤ (DX : Int) / 10 * 10) = true := decide_eq_true g1
          clear HR KU3 KRo
          go_wp2_with fail
          go_ret2
          refine ⟨?_, by rw [HG.out]; exact B8⟩
          rw [HR1.out.1, HR1.out.2]
          first | rfl | simp
        · have d1 : decide (DN ≤ (DX : Int) / 10 * 10) = false := decide_eq_false g1
          by_cases g2 : DN < (DX : Int)
          · have HR1 : Hid (R1 = R3 ∧ R2 = -P) := Lib.hid (by
              have := HR.out
              rw [if_neg g1, if_pos g2] at this
              exact ⟨(Prod.mk.inj this).1.symm, (Prod.mk.inj this).2.symm⟩)
            have d2 : decide (DN < (DX : Int)) = true := decide_eq_true g2
            clear HR
            go_wp2_with fail
            refine (KU3.out G _ x8).mono ?_
            rintro e' w11 ⟨rfl, b11⟩
            have B11 : Below G w1 w11 := B8.trans (b11.mono (by have := x8.lt; omega))
            go_wp2_with fail
            refine (KRo.out _).mono ?_
            rintro e' w12 ⟨rfl, rfl⟩
            go_wp2_with fail
            go_ret2
            refine ⟨?_, by rw [HG.out]; exact B11⟩
            rw [HR1.out.1, HR1.out.2]
            first | rfl | simp
          · have HR1 : Hid (R1 = DN ∧ R2 = -P) := Lib.hid (by
              have := HR.out
              rw [if_neg g1, if_neg g2] at this
              exact ⟨(Prod.mk.inj this).1.symm, (Prod.mk.inj this).2.symm⟩)
            have d2 : decide (DN < (DX : Int)) = false := decide_eq_false g2
            clear HR KU3 KRo
            go_wp2_with fail
            go_ret2
            refine ⟨?_, by rw [HG.out]; exact B8⟩
            rw [HR1.out.1, HR1.out.2]
            first | rfl | simp
    · rw [hbb] at hsk
      have hp2 : -(((e + 40) * 631305 - 261663) / 2097152) = P := by rw [← hP]; unfold sfP; rw [hsk, if_pos rfl]
      have hmn2 : IntKind.u64.wrap ((m : Int) - 274877906944) = (MN : Int) := by
        unfold sfMin at hMN; rw [hsk] at hMN
        rw [if_pos rfl] at hMN
        rw [IntKind.wrap_u64]; omega
      clear hsk hMN hMX hP hOD hZ k40 k39 hm1
      obtain ⟨rfl, rfl⟩ : b1 = true ∧ b2 = true := by simpa using hbb
      clear hbb
      go_enter Tryz.func207, Tryz.ntmps207
      go_wp2_with fail
      refine (sc_skewed _ _ (by omega)).mono ?_
      rintro e' w1 ⟨rfl, rfl⟩
      go_upto_region 27 with fail
      clear hod2 hmn2 hmx2
      try clear hod3
      try clear hp2
      try clear hKi hZe hZ2 h18b hzr
      clear hb1 hb2 hMNlt hMXlt hmlt hm0 hw10
      go_upto_region 28 with fail
      refine name_world ?_
      intro w2 hw2
      have x12 : Bx w2 w1.heap.size 261 #[.int .u64 0, .int .u64 0, .int .i64 0] := by rw [hw2]; exact Bx.new _ _ _
      have B2 : Below w1.heap.size w1 w2 := by rw [hw2]; exact bnew (Below.refl _ _)
      have E2 := Lib.hid (E.below B2)
      clear hw2 E
      generalize hG : w1.heap.size = G at *
      have HG := Lib.hid hG
      clear hG
      go_wp2_with fail
      refine (sc_log2Pow10 _ _ (by omega)).mono ?_
      rintro e' w3 ⟨rfl, rfl⟩
      go_wp2_with fail
      refine (sc_prescale G e _ _ I _ _ _ w3 E2.out x12 hIp hI2 hgG (by omega) (by omega)).mono ?_
      rintro e' w4 ⟨rfl, x4, b4⟩
      rw [hSe] at x4
      have B4 : Below G w1 w4 := B2.trans b4
      clear x12 B2 b4 E2 hSe hIp hI2 hS64 c3 c4
      go_wp2_with fail
      refine (KU1.out G _ x4).mono ?_
      rintro e' w5 ⟨rfl, b5⟩
      have x5 := x4.keep b5
      have B5 : Below G w1 w5 := B4.trans (b5.mono (by have := x4.lt; omega))
      clear x4 b5 B4 KU1
      go_wp2_with fail
      refine (KN1.out _).mono ?_
      rintro e' w6 ⟨rfl, rfl⟩
      go_wp2_with fail
      refine (KC.out _).mono ?_
      rintro e' w7 ⟨rfl, rfl⟩
      clear KN1 KC
      go_wp2_with fail
      refine (KU2.out G _ x5).mono ?_
      rintro e' w8 ⟨rfl, b8⟩
      have x8 := x5.keep b8
      have B8 : Below G w1 w8 := B5.trans (b8.mono (by have := x5.lt; omega))
      clear x5 b8 B5 KU2
      go_wp2_with fail
      refine (KN2.out _).mono ?_
      rintro e' w9 ⟨rfl, rfl⟩
      go_wp2_with fail
      refine (KF.out _).mono ?_
      rintro e' w10 ⟨rfl, rfl⟩
      clear KN2 KF
      by_cases g1 : DN ≤ (DX : Int) / 10 * 10
      · have HR1 : Hid (R1 = (DX : Int) / 10 ∧ R2 = -(P - 1)) := Lib.hid (by
          have := HR.out
          rw [if_pos g1] at this
          exact ⟨(Prod.mk.inj this).1.symm, (Prod.mk.inj this).2.symm⟩)
        have d1 : decide (DN ≤ (DX : Int) / 10 * 10) = true := decide_eq_true g1
        clear HR KU3 KRo
        go_wp2_with fail
        go_ret2
        refine ⟨?_, by rw [HG.out]; exact B8⟩
        rw [HR1.out.1, HR1.out.2]
        first | rfl | simp
      · have d1 : decide (DN ≤ (DX : Int) / 10 * 10) = false := decide_eq_false g1
        by_cases g2 : DN < (DX : Int)
        · have HR1 : Hid (R1 = R3 ∧ R2 = -P) := Lib.hid (by
            have := HR.out
            rw [if_neg g1, if_pos g2] at this
            exact ⟨(Prod.mk.inj this).1.symm, (Prod.mk.inj this).2.symm⟩)
          have d2 : decide (DN < (DX : Int)) = true := decide_eq_true g2
          clear HR
          go_wp2_with fail
          refine (KU3.out G _ x8).mono ?_
          rintro e' w11 ⟨rfl, b11⟩
          have B11 : Below G w1 w11 := B8.trans (b11.mono (by have := x8.lt; omega))
          go_wp2_with fail
          refine (KRo.out _).mono ?_
          rintro e' w12 ⟨rfl, rfl⟩
          go_wp2_with fail
          go_ret2
          refine ⟨?_, by rw [HG.out]; exact B11⟩
          rw [HR1.out.1, HR1.out.2]
          first | rfl | simp
        · have HR1 : Hid (R1 = DN ∧ R2 = -P) := Lib.hid (by
            have := HR.out
            rw [if_neg g1, if_neg g2] at this
            exact ⟨(Prod.mk.inj this).1.symm, (Prod.mk.inj this).2.symm⟩)
          have d2 : decide (DN < (DX : Int)) = false := decide_eq_false g2
          clear HR KU3 KRo
          go_wp2_with fail
          go_ret2
          refine ⟨?_, by rw [HG.out]; exact B8⟩
          rw [HR1.out.1, HR1.out.2]
          first | rfl | simp
  · obtain ⟨Z, hZ⟩ : ∃ Z, sfZ e = Z := ⟨_, rfl⟩
    have hZe : 40 + (-189 - e) = (Z : Int) := by
      rw [← hZ]; unfold sfZ; rw [if_neg h18]; omega
    have hZ2 : e + (Z : Int) = -149 := by omega
    obtain rfl : b2 = false := by rw [← hb2]; exact decide_eq_false (by omega)
    have h18b : decide (-189 ≤ e) = false := decide_eq_false h18
    rw [hZ] at k40 k39 hm1 hzr
    rw [Bool.and_false] at hsk
    obtain ⟨K, hK⟩ : ∃ K : Nat, 2 ^ (Z - 1) = K := ⟨_, rfl⟩
    have hKi : IntKind.u64.wrap ((2 : Int) ^ (Z - 1)) = (K : Int) := by
      rw [← hK]
      have : (2 : Int) ^ (Z - 1) = ((2 ^ (Z - 1) : Nat) : Int) := by simp
      rw [this, IntKind.wrap_u64]; omega
    have hod2 : bits .and .i64 (wrap64 ((m : Int) / 2 ^ Z)) 1 = OD := by rw [← hOD]; unfold sfOdd; rw [hZ]
    have hmn2 : IntKind.u64.wrap ((m : Int) - (K : Int)) = (MN : Int) := by
      unfold sfMin at hMN; rw [hsk, hZ, hK, if_neg (by simp)] at hMN
      rw [IntKind.wrap_u64]; omega
    have hmx2 : IntKind.u64.wrap ((m : Int) + (K : Int)) = (MX : Int) := by
      unfold sfMax at hMX; rw [hZ, hK] at hMX
      rw [IntKind.wrap_u64]; omega
    have hp2 : (45 : Int) = P := by
      rw [← hP]; unfold sfP; rw [hsk, hZ]
      have : e + (Z : Int) = -149 := hZ2
      rw [if_neg (by simp), this]; omega
    subst hp2
    replace hSe : -(e + 149 + 3) = (S : Int) := by omega
    clear hsk hMN hMX hP hOD hZ k40 k39 hm1 hK h18
    cases b1
    all_goals
      go_enter Tryz.func207, Tryz.ntmps207
      go_wp2_with fail
      refine (sc_log10Pow2 _ _ (by omega)).mono ?_
      rintro e' w1 ⟨rfl, rfl⟩
      go_upto_region 27 with fail
      clear hod2 hmn2 hmx2
      try clear hod3
      try clear hp2
      try clear hKi hZe hZ2 h18b hzr
      clear hb1 hb2 hMNlt hMXlt hmlt hm0 hw10
      go_upto_region 28 with fail
      refine name_world ?_
      intro w2 hw2
      have x12 : Bx w2 w1.heap.size 261 #[.int .u64 0, .int .u64 0, .int .i64 0] := by rw [hw2]; exact Bx.new _ _ _
      have B2 : Below w1.heap.size w1 w2 := by rw [hw2]; exact bnew (Below.refl _ _)
      have E2 := Lib.hid (E.below B2)
      clear hw2 E
      generalize hG : w1.heap.size = G at *
      have HG := Lib.hid hG
      clear hG
      go_wp2_with fail
      refine (sc_log2Pow10 _ _ (by omega)).mono ?_
      rintro e' w3 ⟨rfl, rfl⟩
      go_wp2_with fail
      refine (sc_prescale G e _ _ I _ _ _ w3 E2.out x12 hIp hI2 hgG (by omega) (by omega)).mono ?_
      rintro e' w4 ⟨rfl, x4, b4⟩
      rw [hSe] at x4
      have B4 : Below G w1 w4 := B2.trans b4
      clear x12 B2 b4 E2 hSe hIp hI2 hS64 c3 c4
      go_wp2_with fail
      refine (KU1.out G _ x4).mono ?_
      rintro e' w5 ⟨rfl, b5⟩
      have x5 := x4.keep b5
      have B5 : Below G w1 w5 := B4.trans (b5.mono (by have := x4.lt; omega))
      clear x4 b5 B4 KU1
      go_wp2_with fail
      refine (KN1.out _).mono ?_
      rintro e' w6 ⟨rfl, rfl⟩
      go_wp2_with fail
      refine (KC.out _).mono ?_
      rintro e' w7 ⟨rfl, rfl⟩
      clear KN1 KC
      go_wp2_with fail
      refine (KU2.out G _ x5).mono ?_
      rintro e' w8 ⟨rfl, b8⟩
      have x8 := x5.keep b8
      have B8 : Below G w1 w8 := B5.trans (b8.mono (by have := x5.lt; omega))
      clear x5 b8 B5 KU2
      go_wp2_with fail
      refine (KN2.out _).mono ?_
      rintro e' w9 ⟨rfl, rfl⟩
      go_wp2_with fail
      refine (KF.out _).mono ?_
      rintro e' w10 ⟨rfl, rfl⟩
      clear KN2 KF
      by_cases g1 : DN ≤ (DX : Int) / 10 * 10
      · have HR1 : Hid (R1 = (DX : Int) / 10 ∧ R2 = -(45 - 1)) := Lib.hid (by
          have := HR.out
          rw [if_pos g1] at this
          exact ⟨(Prod.mk.inj this).1.symm, (Prod.mk.inj this).2.symm⟩)
        have d1 : decide (DN ≤ (DX : Int) / 10 * 10) = true := decide_eq_true g1
        clear HR KU3 KRo
        go_wp2_with fail
        go_ret2
        refine ⟨?_, by rw [HG.out]; exact B8⟩
        rw [HR1.out.1, HR1.out.2]
        first | rfl | simp
      · have d1 : decide (DN ≤ (DX : Int) / 10 * 10) = false := decide_eq_false g1
        by_cases g2 : DN < (DX : Int)
        · have HR1 : Hid (R1 = R3 ∧ R2 = -45) := Lib.hid (by
            have := HR.out
            rw [if_neg g1, if_pos g2] at this
            exact ⟨(Prod.mk.inj this).1.symm, (Prod.mk.inj this).2.symm⟩)
          have d2 : decide (DN < (DX : Int)) = true := decide_eq_true g2
          clear HR
          go_wp2_with fail
          refine (KU3.out G _ x8).mono ?_
          rintro e' w11 ⟨rfl, b11⟩
          have B11 : Below G w1 w11 := B8.trans (b11.mono (by have := x8.lt; omega))
          go_wp2_with fail
          refine (KRo.out _).mono ?_
          rintro e' w12 ⟨rfl, rfl⟩
          go_wp2_with fail
          go_ret2
          refine ⟨?_, by rw [HG.out]; exact B11⟩
          rw [HR1.out.1, HR1.out.2]
          first | rfl | simp
        · have HR1 : Hid (R1 = DN ∧ R2 = -45) := Lib.hid (by
            have := HR.out
            rw [if_neg g1, if_neg g2] at this
            exact ⟨(Prod.mk.inj this).1.symm, (Prod.mk.inj this).2.symm⟩)
          have d2 : decide (DN < (DX : Int)) = false := decide_eq_false g2
          clear HR KU3 KRo
          go_wp2_with fail
          go_ret2
          refine ⟨?_, by rw [HG.out]; exact B8⟩
          rw [HR1.out.1, HR1.out.2]
          first | rfl | simp
end

section
open Go.RowKit

theorem infoY : (Tryz.prog.info? 5).map (fun i => (i.zero, i.size, i.bytes)) = some (some (.int .u8 0), 1, 1) := by kernel_rfl
def u8s (l : List Int) : List Value := l.map fun x => Value.int .u8 x
theorem u8s_len (l : List Int) : (u8s l).length = l.length := List.length_map ..
/-- A block of cells, marked in whatever way. -/
def Bk (w : World) (g : Nat) (T : TypeId) (cs : Array Value) : Prop := ∃ mk, w.heap[g]? = some (.cells cs T mk)
theorem Bk.lt {w : World} {g : Nat} {T : TypeId} {cs : Array Value} (h : Bk w g T cs) : g < w.heap.size := by
  obtain ⟨mk, h⟩ := h
  exact (Array.getElem?_eq_some_iff.1 h).1
theorem Bk.keep {w w' : World} {g : Nat} {T : TypeId} {cs : Array Value} (h : Bk w g T cs) (hb : Below w.heap.size w w') : Bk w' g T cs := by
  have hl := h.lt
  obtain ⟨mk, h⟩ := h
  exact ⟨mk, (hb.block g hl).trans h⟩
theorem Bk.cell {w : World} {g : Nat} {T : TypeId} {cs : Array Value} (h : Bk w g T cs) (j : Nat) : w.cell? ⟨g, j, none⟩ = cs[j]? := by
  obtain ⟨mk, h⟩ := h
  unfold World.cell?
  rw [h]
  rfl
theorem Bk.of_cell {w : World} {a : Addr} {v : Value} (h : w.cell? a = some v) : ∃ T cs, Bk w a.block T cs := by
  unfold World.cell? at h
  split at h
  · rename_i c T mk hc
    exact ⟨T, c, mk, hc⟩
  · cases h
/-- v is the call's own slice of the bytes l; the block g is as it was. -/
structure StB (B : Nat) (W0 : World) (g : Nat) (T : TypeId) (cs : Array Value) (w : World) (v : Value) (l : List Int) : Prop where
  own : w.ownsRow B 5 1 v l.length (u8s l)
  bel : Below B W0 w
  buf : Bk w g T cs
  ty : T ≠ 5 ∨ g < B
  base : B ≤ w.heap.size
theorem StB.keep {B : Nat} {W0 w w' : World} {g : Nat} {T : TypeId} {cs : Array Value} {v : Value} {l : List Int} (h : StB B W0 g T cs w v l) (hb : Below w.heap.size w w') : StB B W0 g T cs w' v l := by
  refine ⟨⟨h.own.1, ?_⟩, h.bel.trans (hb.mono h.base), h.buf.keep hb, h.ty, Nat.le_trans h.base hb.size⟩
  rcases h.own.2 with h0 | ⟨g', cap, cur, e1, e2, e3, e4⟩
  · exact .inl h0
  · exact .inr ⟨g', cap, cur, e1, e2, (hb.block g' (Array.getElem?_eq_some_iff.1 e3).1).trans e3, e4⟩
theorem StB.form {B : Nat} {W0 w : World} {g : Nat} {T : TypeId} {cs : Array Value} {v : Value} {l : List Int} (h : StB B W0 g T cs w v l) : ∃ a c, v = .slice a l.length c ∧ ∀ k, v.ownBlock = some k → B ≤ k ∧ k < w.heap.size ∧ k ≠ g := by
  rcases h.own.2 with ⟨h0, h1⟩ | ⟨g', cap, cur, e1, e2, e3, e4⟩
  · rw [h0, h1]
    exact ⟨none, 0, rfl, fun k hk => by cases hk⟩
  · refine ⟨_, _, e1, fun k hk => ?_⟩
    rw [e1] at hk
    simp only [Value.ownBlock, Option.some.injEq] at hk
    subst hk
    refine ⟨e2, (Array.getElem?_eq_some_iff.1 e3).1, ?_⟩
    rintro rfl
    obtain ⟨mk, hbuf⟩ := h.buf
    have := hbuf.symm.trans e3
    injection this with this
    injection this with _ e5 _
    rcases h.ty with ht | ht
    · exact ht e5
    · omega
/-- An append of what lies from an address on. -/
theorem by_app {B : Nat} {W0 w : World} {g : Nat} {T : TypeId} {cs : Array Value} {v : Value} {l : List Int} (st : StB B W0 g T cs w v l) {ops : Array Oper} {rest : List Oper} {o : Oper} {a : Act} {Q : Exit → Act → World → Prop} (hgd : o.guard = none) (s x : Operand)
    (ho : o.op = .call { callee := .builtin .append, args := #[s, x], argTypes := #[157, 157] }) (K : List Int) (ad : Addr) (n c : Nat) (hs : a.eval s = v) (hx : a.eval x = .slice (some ad) n c) (hn : n = K.length)
    (hc : ∀ (j : Nat) (u : Value), (u8s K)[j]? = some u → w.cell? (ad.add j) = some u) (hl : l.length + K.length ≤ 1000000)
    (h : ∀ v' w', StB B W0 g T cs w' v' (l ++ K) → wpList Tryz.prog ops Q rest (a.put o.dst v') w') :
    wpList Tryz.prog ops Q (o :: rest) a w := by
  subst hn
  obtain ⟨i0, hi, hz0, hz1, hz2⟩ := info_parts infoY
  have hml : maxLen = 9223372036854775807 := rfl
  obtain ⟨_, _, _, hob⟩ := st.form
  refine wpList_append_own w hgd s x 157 ho B 5 i0 (.int .u8 0) 1 1 Tryz.underlying157 hi hz0 hz1 hz2 rfl (by decide) v l.length (u8s l) hs st.own ad K.length c (u8s K) hx (by rw [u8s_len, Nat.mul_one]) hc ?_ (by omega) (by omega) st.base ?_
  · intro u hu
    obtain ⟨p, _, rfl⟩ := List.mem_map.1 hu
    rfl
  · intro v' w' hown hgrow _
    refine h _ w' ⟨?_, ?_, ?_, st.ty, Nat.le_trans st.base hgrow.size⟩
    · unfold u8s
      rw [List.map_append, List.length_append]; exact hown
    · exact st.bel.grown hgrow st.base (fun k hk => (hob k hk).1)
    · unfold Bk
      rw [hgrow.block g st.buf.lt (fun e => (hob g e.symm).2.2 rfl)]
      exact st.buf
/-- An append of a few bytes that are written out. -/
theorem by_lit {B : Nat} {W0 w0 : World} {g : Nat} {T : TypeId} {cs : Array Value} {v : Value} {l : List Int} (st : StB B W0 g T cs w0 v l) {ops : Array Oper} {rest : List Oper} {o : Oper} {a : Act} {Q : Exit → Act → World → Prop} (hgd : o.guard = none) (s x : Operand)
    (ho : o.op = .call { callee := .builtin .append, args := #[s, x], argTypes := #[157, 157] }) (K : List Int) (w : World) (hw : w = w0.alloc (.cells (u8s K).toArray 5)) (n c : Nat) (hs : a.eval s = v) (hx : a.eval x = .slice (some ⟨w0.heap.size, 0, none⟩) n c) (hn : n = K.length)
    (hl : l.length + K.length ≤ 1000000)
    (h : ∀ v' w', StB B W0 g T cs w' v' (l ++ K) → wpList Tryz.prog ops Q rest (a.put o.dst v') w') :
    wpList Tryz.prog ops Q (o :: rest) a w := by
  have hb : Below w0.heap.size w0 w := by rw [hw]; exact bnew (Below.refl _ _)
  refine by_app (st.keep hb) hgd s x ho K ⟨w0.heap.size, 0, none⟩ n c hs hx hn (fun j u hj => ?_) hl h
  have xb : Bx w w0.heap.size 5 (u8s K).toArray := by rw [hw]; exact Bx.new _ _ _
  have := xb.all.1 j
  rw [show ((⟨w0.heap.size, 0, none⟩ : Addr).add j) = ⟨w0.heap.size, j, none⟩ by simp [Addr.add]; intro e; exact e.symm, this]
  simpa using hj

/-! ### What is written -/
def expT (e : Int) : List Int := (if e < 0 then [45] else [43]) ++ (if e.natAbs < 10 then [48, (e.natAbs : Int) + 48] else if e.natAbs < 100 then [(e.natAbs : Int) / 10 + 48, (e.natAbs : Int) % 10 + 48] else [(e.natAbs : Int) / 100 + 48, (e.natAbs : Int) / 10 % 10 + 48, (e.natAbs : Int) % 10 + 48])
/-- A number of the digits D, the point behind dp of them. -/
def fmtT (neg : Bool) (D : List Int) (dp : Int) : List Int :=
  (if neg then [45] else []) ++
  (if dp - 1 < -4 ∨ 6 ≤ dp - 1 then
    [D.getD 0 48] ++ ((if 1 < D.length then [46] ++ D.drop 1 else []) ++ ([101] ++ expT (if D.length = 0 then 0 else dp - 1)))
  else if 0 < dp then
    D.take dp.toNat ++ (List.replicate (dp.toNat - D.length) 48 ++ (if dp.toNat < D.length then [46] ++ D.drop dp.toNat else []))
  else [48] ++ (if 0 < (D.length : Int) - dp then [46] ++ (List.replicate (-dp).toNat 48 ++ D) else []))
end
end Go.Proofs.YticekgnmiaidjaaGreatDoor
