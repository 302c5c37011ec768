/- internal/strconv: fmtEFG of the shortest digits, format g. (printed by gen_ffe.py) -/
import Derived.Test.YticekgnmiaidjaaGreatDoorFfD
namespace Go.Proofs.YticekgnmiaidjaaGreatDoor
open Go.RowKit

theorem StB.cast {B : Nat} {W0 w : World} {g : Nat} {T : TypeId} {cs : Array Value} {v : Value} {l l' : List Int} (h : StB B W0 g T cs w v l) (e : l = l') : StB B W0 g T cs w v l' := e ▸ h
theorem imin_self (x : Int) : imin x x = x := by unfold imin; split <;> omega
theorem cell_dig {w : World} {g : Nat} {T : TypeId} {cs : Array Value} {D : List Int} (x : Bk w g T cs) (hD : ∀ (j : Nat) (y : Int), D[j]? = some y → cs[j]? = some (.int .u8 y)) {j : Nat} {y : Int} (h : D[j]? = some y) : w.cell? ⟨g, j, none⟩ = some (.int .u8 y) := (x.cell j).trans (hD j y h)
theorem row_dig {w : World} {g : Nat} {T : TypeId} {cs : Array Value} {D : List Int} (x : Bk w g T cs) (hD : ∀ (j : Nat) (y : Int), D[j]? = some y → cs[j]? = some (.int .u8 y)) (k : Nat) : ∀ (j : Nat) (u : Value), (u8s (D.drop k))[j]? = some u → w.cell? ((⟨g, k, none⟩ : Addr).add j) = some u := by
  intro j u hj
  unfold u8s at hj
  rw [List.getElem?_map, Option.map_eq_some_iff] at hj
  obtain ⟨y, hy, rfl⟩ := hj
  rw [List.getElem?_drop] at hy
  have := cell_dig x hD hy
  rw [show ((⟨g, k, none⟩ : Addr).add j) = ⟨g, k + j, none⟩ by unfold Addr.add; split <;> simp_all]
  exact this
set_option maxRecDepth 100000 in
set_option maxHeartbeats 8000000 in
theorem efg_e (neg : Bool) (D : List Int) (dp : Int) (B g : Nat) (T : TypeId) (cs : Array Value) (v : Value) (W : World) (st : StB B W g T cs W v []) (hN : D.length ≤ 32) (hD : ∀ (j : Nat) (y : Int), D[j]? = some y → cs[j]? = some (.int .u8 y)) (h1 : 1 ≤ D.length) (hd : dp - 1 < -4 ∨ 6 ≤ dp - 1) (he : -90 ≤ dp ∧ dp ≤ 90) :
    Calls Tryz.prog 206 #[v, .bool neg, .slice (some ⟨g, 0, none⟩) 32 32, .int .i64 dp, .int .i64 (D.length : Int), .int .i64 (D.length : Int), .int .u8 103, .bool true] W fun e w' => ∃ v', e = .returned v' ∧ StB B W g T cs w' v' (fmtT neg D dp) := by
  obtain ⟨R, hR⟩ : ∃ R, fmtT neg D dp = R := ⟨_, rfl⟩
  rw [hR]
  unfold fmtT at hR
  obtain ⟨N, hNe⟩ : ∃ N, D.length = N := ⟨_, rfl⟩
  rw [hNe] at hN hR ⊢
  have HD := Lib.hid hD
  have HN := Lib.hid hNe
  have HS := Lib.hid st
  have hm1 := imin_self (N : Int)
  clear hD st
  rw [if_pos hd] at hR
  rw [hNe] at h1
  rw [if_neg (show ¬ N = 0 by omega)] at hR
  obtain ⟨x0, hx0⟩ : ∃ x, D[0]? = some x := ⟨D[0]'(by omega), List.getElem?_eq_getElem _⟩
  have hg0 : D.getD 0 48 = x0 := by rw [List.getD_eq_getElem?_getD, hx0]; rfl
  rw [hg0] at hR
  have HX := Lib.hid hx0
  obtain ⟨E, hE⟩ : ∃ E, dp - 1 = E := ⟨_, rfl⟩
  obtain ⟨k, hk⟩ : ∃ k : Nat, E.natAbs = k := ⟨_, rfl⟩
  have hk2 : k < 100 := by omega
  unfold expT at hR
  rw [hE] at hR hd
  rw [hk] at hR
  have HR := Lib.hid hR
  clear hR hNe hx0 hg0
  have hnz : ((N : Int) != 0) = true := by rw [bne_iff_ne]; omega
  have hnz2 : ((N : Int) == 0) = false := by rw [beq_eq_false_iff_ne]; omega
  cases neg
  case true =>
    by_cases h2 : 1 < N
    · have hN1 : decide (1 < (N : Int)) = true := decide_eq_true (by omega)
      have hN2 : decide (0 < (N : Int) - 1) = true := decide_eq_true (by omega)
      by_cases hE4 : E < -4
      · obtain rfl : E = -(k : Int) := by omega
        have hk0 : 4 < (k : Int) := by omega
        have hb1 : decide (-(k : Int) < -4) = true := decide_eq_true (by omega)
        clear hd hk
        by_cases hks : k < 10
        · have hki : (k : Int) < 10 := by omega
          go_enter Tryz.func206, Tryz.ntmps206
          go_upto_region 21 with fail
          go_wp2_with (at_builtin; refine by_lit HS.out rfl (.tmp 79) (.tmp 80) rfl [45] _ rfl _ _ rfl rfl rfl (by simp only [List.length_cons, List.length_nil]; omega) ?_)
          intro v1 w1 st1
          have HS1 := Lib.hid st1
          clear st1
          go_upto_region 24 with fail
          have hc0 := cell_dig HS1.out.buf HD.out HX.out
          go_upto_region 25 with fail
          go_wp2_with (at_builtin; refine by_lit HS1.out rfl (.tmp 87) (.tmp 89) rfl [x0] _ rfl _ _ rfl rfl rfl (by simp only [List.length_cons, List.length_nil]; omega) ?_)
          intro v2 w2 st2
          have HS2 := Lib.hid st2
          clear st2
          go_upto_region 27 with fail
          go_wp2_with (at_builtin; refine by_lit HS2.out rfl (.tmp 93) (.tmp 94) rfl [46] _ rfl _ _ rfl rfl rfl (by simp only [List.length_cons, List.length_nil]; omega) ?_)
          intro v3 w3 st3
          have HS3 := Lib.hid st3
          clear st3
          go_upto_region 31 with fail
          go_wp2_with (at_builtin; refine by_app HS3.out rfl (.tmp 103) (.tmp 107) rfl (D.drop 1) ⟨g, 1, none⟩ (N - 1) 31 rfl rfl (by rw [List.length_drop, HN.out]) (row_dig HS3.out.buf HD.out 1) (by simp only [List.length_cons, List.length_nil, List.length_drop, HN.out]; omega) ?_)
          intro v4 w4 st4
          have HS4 := Lib.hid st4
          clear st4
          go_wp2_with fail
          go_loopw [0, 114] (fun s i wr => s = v4 ∧ i = .int .i64 0 ∧ wr = w4) (fun _ _ _ => 0)
          case atStart => exact ⟨rfl, rfl, rfl⟩
          case round =>
            obtain ⟨rfl, rfl, rfl⟩ := hrel
            go_upto_region 37 with fail
            go_wp2_with (at_builtin; refine by_lit HS4.out rfl (.tmp 120) (.tmp 122) rfl [101] _ rfl _ _ rfl rfl rfl (by simp only [List.length_cons, List.length_nil, List.length_tail, HN.out]; omega) ?_)
            intro v5 w5 st5
            have HS5 := Lib.hid st5
            clear st5
            go_upto_region 45 with fail
            go_wp2_with (at_builtin; refine by_lit HS5.out rfl (.tmp 132) (.tmp 134) rfl [45] _ rfl _ _ rfl rfl rfl (by simp only [List.length_append, List.length_cons, List.length_nil, List.length_tail, HN.out]; omega) ?_)
            intro v6 w6 st6
            have HS6 := Lib.hid st6
            clear st6
            go_upto_region 48 with fail
            go_wp2_with (at_builtin; refine by_lit HS6.out rfl (.tmp 155) (.tmp 159) rfl [48, (k : Int) + 48] _ rfl _ _ rfl rfl rfl (by simp only [List.length_append, List.length_cons, List.length_nil, List.length_tail, HN.out]; omega) ?_)
            intro v7 w7 st7
            have HS7 := Lib.hid st7
            clear st7
            go_wp2_with fail
            go_ret
            exact ⟨_, rfl, HS7.out.cast (by
                have hsg : 0 < k := by omega
                have hsm : k < 10 := by omega
                rw [← HR.out]; simp [h2, hsm, hsg])⟩
        · have hki : 10 ≤ (k : Int) := by omega
          have hki2 : (k : Int) < 100 := by omega
          go_enter Tryz.func206, Tryz.ntmps206
          go_upto_region 21 with fail
          go_wp2_with (at_builtin; refine by_lit HS.out rfl (.tmp 79) (.tmp 80) rfl [45] _ rfl _ _ rfl rfl rfl (by simp only [List.length_cons, List.length_nil]; omega) ?_)
          intro v1 w1 st1
          have HS1 := Lib.hid st1
          clear st1
          go_upto_region 24 with fail
          have hc0 := cell_dig HS1.out.buf HD.out HX.out
          go_upto_region 25 with fail
          go_wp2_with (at_builtin; refine by_lit HS1.out rfl (.tmp 87) (.tmp 89) rfl [x0] _ rfl _ _ rfl rfl rfl (by simp only [List.length_cons, List.length_nil]; omega) ?_)
          intro v2 w2 st2
          have HS2 := Lib.hid st2
          clear st2
          go_upto_region 27 with fail
          go_wp2_with (at_builtin; refine by_lit HS2.out rfl (.tmp 93) (.tmp 94) rfl [46] _ rfl _ _ rfl rfl rfl (by simp only [List.length_cons, List.length_nil]; omega) ?_)
          intro v3 w3 st3
          have HS3 := Lib.hid st3
          clear st3
          go_upto_region 31 with fail
          go_wp2_with (at_builtin; refine by_app HS3.out rfl (.tmp 103) (.tmp 107) rfl (D.drop 1) ⟨g, 1, none⟩ (N - 1) 31 rfl rfl (by rw [List.length_drop, HN.out]) (row_dig HS3.out.buf HD.out 1) (by simp only [List.length_cons, List.length_nil, List.length_drop, HN.out]; omega) ?_)
          intro v4 w4 st4
          have HS4 := Lib.hid st4
          clear st4
          go_wp2_with fail
          go_loopw [0, 114] (fun s i wr => s = v4 ∧ i = .int .i64 0 ∧ wr = w4) (fun _ _ _ => 0)
          case atStart => exact ⟨rfl, rfl, rfl⟩
          case round =>
            obtain ⟨rfl, rfl, rfl⟩ := hrel
            go_upto_region 37 with fail
            go_wp2_with (at_builtin; refine by_lit HS4.out rfl (.tmp 120) (.tmp 122) rfl [101] _ rfl _ _ rfl rfl rfl (by simp only [List.length_cons, List.length_nil, List.length_tail, HN.out]; omega) ?_)
            intro v5 w5 st5
            have HS5 := Lib.hid st5
            clear st5
            go_upto_region 45 with fail
            go_wp2_with (at_builtin; refine by_lit HS5.out rfl (.tmp 132) (.tmp 134) rfl [45] _ rfl _ _ rfl rfl rfl (by simp only [List.length_append, List.length_cons, List.length_nil, List.length_tail, HN.out]; omega) ?_)
            intro v6 w6 st6
            have HS6 := Lib.hid st6
            clear st6
            go_upto_region 50 with fail
            go_wp2_with (at_builtin; refine by_lit HS6.out rfl (.tmp 164) (.tmp 173) rfl [(k : Int) / 10 + 48, (k : Int) % 10 + 48] _ rfl _ _ rfl rfl rfl (by simp only [List.length_append, List.length_cons, List.length_nil, List.length_tail, HN.out]; omega) ?_)
            intro v7 w7 st7
            have HS7 := Lib.hid st7
            clear st7
            go_wp2_with fail
            go_ret
            exact ⟨_, rfl, HS7.out.cast (by
                have hsg : 0 < k := by omega
                have hsm : ¬ k < 10 := by omega
                rw [← HR.out]; simp [h2, hsm, hsg, hk2])⟩
      · obtain rfl : E = (k : Int) := by omega
        have hk0 : 6 ≤ (k : Int) := by omega
        have hb1 : decide ((k : Int) < -4) = false := decide_eq_false (by omega)
        have hb2 : decide (6 ≤ (k : Int)) = true := decide_eq_true (by omega)
        clear hd hk
        by_cases hks : k < 10
        · have hki : (k : Int) < 10 := by omega
          go_enter Tryz.func206, Tryz.ntmps206
          go_upto_region 21 with fail
          go_wp2_with (at_builtin; refine by_lit HS.out rfl (.tmp 79) (.tmp 80) rfl [45] _ rfl _ _ rfl rfl rfl (by simp only [List.length_cons, List.length_nil]; omega) ?_)
          intro v1 w1 st1
          have HS1 := Lib.hid st1
          clear st1
          go_upto_region 24 with fail
          have hc0 := cell_dig HS1.out.buf HD.out HX.out
          go_upto_region 25 with fail
          go_wp2_with (at_builtin; refine by_lit HS1.out rfl (.tmp 87) (.tmp 89) rfl [x0] _ rfl _ _ rfl rfl rfl (by simp only [List.length_cons, List.length_nil]; omega) ?_)
          intro v2 w2 st2
          have HS2 := Lib.hid st2
          clear st2
          go_upto_region 27 with fail
          go_wp2_with (at_builtin; refine by_lit HS2.out rfl (.tmp 93) (.tmp 94) rfl [46] _ rfl _ _ rfl rfl rfl (by simp only [List.length_cons, List.length_nil]; omega) ?_)
          intro v3 w3 st3
          have HS3 := Lib.hid st3
          clear st3
          go_upto_region 31 with fail
          go_wp2_with (at_builtin; refine by_app HS3.out rfl (.tmp 103) (.tmp 107) rfl (D.drop 1) ⟨g, 1, none⟩ (N - 1) 31 rfl rfl (by rw [List.length_drop, HN.out]) (row_dig HS3.out.buf HD.out 1) (by simp only [List.length_cons, List.length_nil, List.length_drop, HN.out]; omega) ?_)
          intro v4 w4 st4
          have HS4 := Lib.hid st4
          clear st4
          go_wp2_with fail
          go_loopw [0, 114] (fun s i wr => s = v4 ∧ i = .int .i64 0 ∧ wr = w4) (fun _ _ _ => 0)
          case atStart => exact ⟨rfl, rfl, rfl⟩
          case round =>
            obtain ⟨rfl, rfl, rfl⟩ := hrel
            go_upto_region 37 with fail
            go_wp2_with (at_builtin; refine by_lit HS4.out rfl (.tmp 120) (.tmp 122) rfl [101] _ rfl _ _ rfl rfl rfl (by simp only [List.length_cons, List.length_nil, List.length_tail, HN.out]; omega) ?_)
            intro v5 w5 st5
            have HS5 := Lib.hid st5
            clear st5
            go_upto_region 45 with fail
            go_wp2_with (at_builtin; refine by_lit HS5.out rfl (.tmp 132) (.tmp 134) rfl [43] _ rfl _ _ rfl rfl rfl (by simp only [List.length_append, List.length_cons, List.length_nil, List.length_tail, HN.out]; omega) ?_)
            intro v6 w6 st6
            have HS6 := Lib.hid st6
            clear st6
            go_upto_region 48 with fail
            go_wp2_with (at_builtin; refine by_lit HS6.out rfl (.tmp 155) (.tmp 159) rfl [48, (k : Int) + 48] _ rfl _ _ rfl rfl rfl (by simp only [List.length_append, List.length_cons, List.length_nil, List.length_tail, HN.out]; omega) ?_)
            intro v7 w7 st7
            have HS7 := Lib.hid st7
            clear st7
            go_wp2_with fail
            go_ret
            exact ⟨_, rfl, HS7.out.cast (by
                have hsg : ¬ ((k : Int) < 0) := by omega
                have hsm : k < 10 := by omega
                rw [← HR.out]; simp [h2, hsm, hsg])⟩
        · have hki : 10 ≤ (k : Int) := by omega
          have hki2 : (k : Int) < 100 := by omega
          go_enter Tryz.func206, Tryz.ntmps206
          go_upto_region 21 with fail
          go_wp2_with (at_builtin; refine by_lit HS.out rfl (.tmp 79) (.tmp 80) rfl [45] _ rfl _ _ rfl rfl rfl (by simp only [List.length_cons, List.length_nil]; omega) ?_)
          intro v1 w1 st1
          have HS1 := Lib.hid st1
          clear st1
          go_upto_region 24 with fail
          have hc0 := cell_dig HS1.out.buf HD.out HX.out
          go_upto_region 25 with fail
          go_wp2_with (at_builtin; refine by_lit HS1.out rfl (.tmp 87) (.tmp 89) rfl [x0] _ rfl _ _ rfl rfl rfl (by simp only [List.length_cons, List.length_nil]; omega) ?_)
          intro v2 w2 st2
          have HS2 := Lib.hid st2
          clear st2
          go_upto_region 27 with fail
          go_wp2_with (at_builtin; refine by_lit HS2.out rfl (.tmp 93) (.tmp 94) rfl [46] _ rfl _ _ rfl rfl rfl (by simp only [List.length_cons, List.length_nil]; omega) ?_)
          intro v3 w3 st3
          have HS3 := Lib.hid st3
          clear st3
          go_upto_region 31 with fail
          go_wp2_with (at_builtin; refine by_app HS3.out rfl (.tmp 103) (.tmp 107) rfl (D.drop 1) ⟨g, 1, none⟩ (N - 1) 31 rfl rfl (by rw [List.length_drop, HN.out]) (row_dig HS3.out.buf HD.out 1) (by simp only [List.length_cons, List.length_nil, List.length_drop, HN.out]; omega) ?_)
          intro v4 w4 st4
          have HS4 := Lib.hid st4
          clear st4
          go_wp2_with fail
          go_loopw [0, 114] (fun s i wr => s = v4 ∧ i = .int .i64 0 ∧ wr = w4) (fun _ _ _ => 0)
          case atStart => exact ⟨rfl, rfl, rfl⟩
          case round =>
            obtain ⟨rfl, rfl, rfl⟩ := hrel
            go_upto_region 37 with fail
            go_wp2_with (at_builtin; refine by_lit HS4.out rfl (.tmp 120) (.tmp 122) rfl [101] _ rfl _ _ rfl rfl rfl (by simp only [List.length_cons, List.length_nil, List.length_tail, HN.out]; omega) ?_)
            intro v5 w5 st5
            have HS5 := Lib.hid st5
            clear st5
            go_upto_region 45 with fail
            go_wp2_with (at_builtin; refine by_lit HS5.out rfl (.tmp 132) (.tmp 134) rfl [43] _ rfl _ _ rfl rfl rfl (by simp only [List.length_append, List.length_cons, List.length_nil, List.length_tail, HN.out]; omega) ?_)
            intro v6 w6 st6
            have HS6 := Lib.hid st6
            clear st6
            go_upto_region 50 with fail
            go_wp2_with (at_builtin; refine by_lit HS6.out rfl (.tmp 164) (.tmp 173) rfl [(k : Int) / 10 + 48, (k : Int) % 10 + 48] _ rfl _ _ rfl rfl rfl (by simp only [List.length_append, List.length_cons, List.length_nil, List.length_tail, HN.out]; omega) ?_)
            intro v7 w7 st7
            have HS7 := Lib.hid st7
            clear st7
            go_wp2_with fail
            go_ret
            exact ⟨_, rfl, HS7.out.cast (by
                have hsg : ¬ ((k : Int) < 0) := by omega
                have hsm : ¬ k < 10 := by omega
                rw [← HR.out]; simp [h2, hsm, hsg, hk2])⟩
    · have hN1 : N = 1 := by omega
      subst hN1
      by_cases hE4 : E < -4
      · obtain rfl : E = -(k : Int) := by omega
        have hk0 : 4 < (k : Int) := by omega
        have hb1 : decide (-(k : Int) < -4) = true := decide_eq_true (by omega)
        clear hd hk
        by_cases hks : k < 10
        · have hki : (k : Int) < 10 := by omega
          go_enter Tryz.func206, Tryz.ntmps206
          go_upto_region 21 with fail
          go_wp2_with (at_builtin; refine by_lit HS.out rfl (.tmp 79) (.tmp 80) rfl [45] _ rfl _ _ rfl rfl rfl (by simp only [List.length_cons, List.length_nil]; omega) ?_)
          intro v1 w1 st1
          have HS1 := Lib.hid st1
          clear st1
          go_upto_region 24 with fail
          have hc0 := cell_dig HS1.out.buf HD.out HX.out
          go_upto_region 25 with fail
          go_wp2_with (at_builtin; refine by_lit HS1.out rfl (.tmp 87) (.tmp 89) rfl [x0] _ rfl _ _ rfl rfl rfl (by simp only [List.length_cons, List.length_nil]; omega) ?_)
          intro v2 w2 st2
          have HS2 := Lib.hid st2
          clear st2
          go_upto_region 37 with fail
          go_wp2_with (at_builtin; refine by_lit HS2.out rfl (.tmp 120) (.tmp 122) rfl [101] _ rfl _ _ rfl rfl rfl (by simp only [List.length_cons, List.length_nil]; omega) ?_)
          intro v3 w3 st3
          have HS3 := Lib.hid st3
          clear st3
          go_upto_region 45 with fail
          go_wp2_with (at_builtin; refine by_lit HS3.out rfl (.tmp 132) (.tmp 134) rfl [45] _ rfl _ _ rfl rfl rfl (by simp only [List.length_cons, List.length_nil]; omega) ?_)
          intro v4 w4 st4
          have HS4 := Lib.hid st4
          clear st4
          go_upto_region 48 with fail
          go_wp2_with (at_builtin; refine by_lit HS4.out rfl (.tmp 155) (.tmp 159) rfl [48, (k : Int) + 48] _ rfl _ _ rfl rfl rfl (by simp only [List.length_cons, List.length_nil]; omega) ?_)
          intro v5 w5 st5
          have HS5 := Lib.hid st5
          clear st5
          go_wp2_with fail
          go_ret
          exact ⟨_, rfl, HS5.out.cast (by
              have hsg : 0 < k := by omega
              have hsm : k < 10 := by omega
              rw [← HR.out]; simp [hsm, hsg])⟩
        · have hki : 10 ≤ (k : Int) := by omega
          have hki2 : (k : Int) < 100 := by omega
          go_enter Tryz.func206, Tryz.ntmps206
          go_upto_region 21 with fail
          go_wp2_with (at_builtin; refine by_lit HS.out rfl (.tmp 79) (.tmp 80) rfl [45] _ rfl _ _ rfl rfl rfl (by simp only [List.length_cons, List.length_nil]; omega) ?_)
          intro v1 w1 st1
          have HS1 := Lib.hid st1
          clear st1
          go_upto_region 24 with fail
          have hc0 := cell_dig HS1.out.buf HD.out HX.out
          go_upto_region 25 with fail
          go_wp2_with (at_builtin; refine by_lit HS1.out rfl (.tmp 87) (.tmp 89) rfl [x0] _ rfl _ _ rfl rfl rfl (by simp only [List.length_cons, List.length_nil]; omega) ?_)
          intro v2 w2 st2
          have HS2 := Lib.hid st2
          clear st2
          go_upto_region 37 with fail
          go_wp2_with (at_builtin; refine by_lit HS2.out rfl (.tmp 120) (.tmp 122) rfl [101] _ rfl _ _ rfl rfl rfl (by simp only [List.length_cons, List.length_nil]; omega) ?_)
          intro v3 w3 st3
          have HS3 := Lib.hid st3
          clear st3
          go_upto_region 45 with fail
          go_wp2_with (at_builtin; refine by_lit HS3.out rfl (.tmp 132) (.tmp 134) rfl [45] _ rfl _ _ rfl rfl rfl (by simp only [List.length_cons, List.length_nil]; omega) ?_)
          intro v4 w4 st4
          have HS4 := Lib.hid st4
          clear st4
          go_upto_region 50 with fail
          go_wp2_with (at_builtin; refine by_lit HS4.out rfl (.tmp 164) (.tmp 173) rfl [(k : Int) / 10 + 48, (k : Int) % 10 + 48] _ rfl _ _ rfl rfl rfl (by simp only [List.length_cons, List.length_nil]; omega) ?_)
          intro v5 w5 st5
          have HS5 := Lib.hid st5
          clear st5
          go_wp2_with fail
          go_ret
          exact ⟨_, rfl, HS5.out.cast (by
              have hsg : 0 < k := by omega
              have hsm : ¬ k < 10 := by omega
              rw [← HR.out]; simp [hsm, hsg, hk2])⟩
      · obtain rfl : E = (k : Int) := by omega
        have hk0 : 6 ≤ (k : Int) := by omega
        have hb1 : decide ((k : Int) < -4) = false := decide_eq_false (by omega)
        have hb2 : decide (6 ≤ (k : Int)) = true := decide_eq_true (by omega)
        clear hd hk
        by_cases hks : k < 10
        · have hki : (k : Int) < 10 := by omega
          go_enter Tryz.func206, Tryz.ntmps206
          go_upto_region 21 with fail
          go_wp2_with (at_builtin; refine by_lit HS.out rfl (.tmp 79) (.tmp 80) rfl [45] _ rfl _ _ rfl rfl rfl (by simp only [List.length_cons, List.length_nil]; omega) ?_)
          intro v1 w1 st1
          have HS1 := Lib.hid st1
          clear st1
          go_upto_region 24 with fail
          have hc0 := cell_dig HS1.out.buf HD.out HX.out
          go_upto_region 25 with fail
          go_wp2_with (at_builtin; refine by_lit HS1.out rfl (.tmp 87) (.tmp 89) rfl [x0] _ rfl _ _ rfl rfl rfl (by simp only [List.length_cons, List.length_nil]; omega) ?_)
          intro v2 w2 st2
          have HS2 := Lib.hid st2
          clear st2
          go_upto_region 37 with fail
          go_wp2_with (at_builtin; refine by_lit HS2.out rfl (.tmp 120) (.tmp 122) rfl [101] _ rfl _ _ rfl rfl rfl (by simp only [List.length_cons, List.length_nil]; omega) ?_)
          intro v3 w3 st3
          have HS3 := Lib.hid st3
          clear st3
          go_upto_region 45 with fail
          go_wp2_with (at_builtin; refine by_lit HS3.out rfl (.tmp 132) (.tmp 134) rfl [43] _ rfl _ _ rfl rfl rfl (by simp only [List.length_cons, List.length_nil]; omega) ?_)
          intro v4 w4 st4
          have HS4 := Lib.hid st4
          clear st4
          go_upto_region 48 with fail
          go_wp2_with (at_builtin; refine by_lit HS4.out rfl (.tmp 155) (.tmp 159) rfl [48, (k : Int) + 48] _ rfl _ _ rfl rfl rfl (by simp only [List.length_cons, List.length_nil]; omega) ?_)
          intro v5 w5 st5
          have HS5 := Lib.hid st5
          clear st5
          go_wp2_with fail
          go_ret
          exact ⟨_, rfl, HS5.out.cast (by
              have hsg : ¬ ((k : Int) < 0) := by omega
              have hsm : k < 10 := by omega
              rw [← HR.out]; simp [hsm, hsg])⟩
        · have hki : 10 ≤ (k : Int) := by omega
          have hki2 : (k : Int) < 100 := by omega
          go_enter Tryz.func206, Tryz.ntmps206
          go_upto_region 21 with fail
          go_wp2_with (at_builtin; refine by_lit HS.out rfl (.tmp 79) (.tmp 80) rfl [45] _ rfl _ _ rfl rfl rfl (by simp only [List.length_cons, List.length_nil]; omega) ?_)
          intro v1 w1 st1
          have HS1 := Lib.hid st1
          clear st1
          go_upto_region 24 with fail
          have hc0 := cell_dig HS1.out.buf HD.out HX.out
          go_upto_region 25 with fail
          go_wp2_with (at_builtin; refine by_lit HS1.out rfl (.tmp 87) (.tmp 89) rfl [x0] _ rfl _ _ rfl rfl rfl (by simp only [List.length_cons, List.length_nil]; omega) ?_)
          intro v2 w2 st2
          have HS2 := Lib.hid st2
          clear st2
          go_upto_region 37 with fail
          go_wp2_with (at_builtin; refine by_lit HS2.out rfl (.tmp 120) (.tmp 122) rfl [101] _ rfl _ _ rfl rfl rfl (by simp only [List.length_cons, List.length_nil]; omega) ?_)
          intro v3 w3 st3
          have HS3 := Lib.hid st3
          clear st3
          go_upto_region 45 with fail
          go_wp2_with (at_builtin; refine by_lit HS3.out rfl (.tmp 132) (.tmp 134) rfl [43] _ rfl _ _ rfl rfl rfl (by simp only [List.length_cons, List.length_nil]; omega) ?_)
          intro v4 w4 st4
          have HS4 := Lib.hid st4
          clear st4
          go_upto_region 50 with fail
          go_wp2_with (at_builtin; refine by_lit HS4.out rfl (.tmp 164) (.tmp 173) rfl [(k : Int) / 10 + 48, (k : Int) % 10 + 48] _ rfl _ _ rfl rfl rfl (by simp only [List.length_cons, List.length_nil]; omega) ?_)
          intro v5 w5 st5
          have HS5 := Lib.hid st5
          clear st5
          go_wp2_with fail
          go_ret
          exact ⟨_, rfl, HS5.out.cast (by
              have hsg : ¬ ((k : Int) < 0) := by omega
              have hsm : ¬ k < 10 := by omega
              rw [← HR.out]; simp [hsm, hsg, hk2])⟩
  case false =>
    by_cases h2 : 1 < N
    · have hN1 : decide (1 < (N : Int)) = true := decide_eq_true (by omega)
      have hN2 : decide (0 < (N : Int) - 1) = true := decide_eq_true (by omega)
      by_cases hE4 : E < -4
      · obtain rfl : E = -(k : Int) := by omega
        have hk0 : 4 < (k : Int) := by omega
        have hb1 : decide (-(k : Int) < -4) = true := decide_eq_true (by omega)
        clear hd hk
        by_cases hks : k < 10
        · have hki : (k : Int) < 10 := by omega
          go_enter Tryz.func206, Tryz.ntmps206
          go_upto_region 24 with fail
          have hc0 := cell_dig HS.out.buf HD.out HX.out
          go_upto_region 25 with fail
          go_wp2_with (at_builtin; refine by_lit HS.out rfl (.tmp 87) (.tmp 89) rfl [x0] _ rfl _ _ rfl rfl rfl (by simp only [List.length_cons, List.length_nil]; omega) ?_)
          intro v1 w1 st1
          have HS1 := Lib.hid st1
          clear st1
          go_upto_region 27 with fail
          go_wp2_with (at_builtin; refine by_lit HS1.out rfl (.tmp 93) (.tmp 94) rfl [46] _ rfl _ _ rfl rfl rfl (by simp only [List.length_cons, List.length_nil]; omega) ?_)
          intro v2 w2 st2
          have HS2 := Lib.hid st2
          clear st2
          go_upto_region 31 with fail
          go_wp2_with (at_builtin; refine by_app HS2.out rfl (.tmp 103) (.tmp 107) rfl (D.drop 1) ⟨g, 1, none⟩ (N - 1) 31 rfl rfl (by rw [List.length_drop, HN.out]) (row_dig HS2.out.buf HD.out 1) (by simp only [List.length_cons, List.length_nil, List.length_drop, HN.out]; omega) ?_)
          intro v3 w3 st3
          have HS3 := Lib.hid st3
          clear st3
          go_wp2_with fail
          go_loopw [0, 114] (fun s i wr => s = v3 ∧ i = .int .i64 0 ∧ wr = w3) (fun _ _ _ => 0)
          case atStart => exact ⟨rfl, rfl, rfl⟩
          case round =>
            obtain ⟨rfl, rfl, rfl⟩ := hrel
            go_upto_region 37 with fail
            go_wp2_with (at_builtin; refine by_lit HS3.out rfl (.tmp 120) (.tmp 122) rfl [101] _ rfl _ _ rfl rfl rfl (by simp only [List.length_cons, List.length_nil, List.length_tail, HN.out]; omega) ?_)
            intro v4 w4 st4
            have HS4 := Lib.hid st4
            clear st4
            go_upto_region 45 with fail
            go_wp2_with (at_builtin; refine by_lit HS4.out rfl (.tmp 132) (.tmp 134) rfl [45] _ rfl _ _ rfl rfl rfl (by simp only [List.length_append, List.length_cons, List.length_nil, List.length_tail, HN.out]; omega) ?_)
            intro v5 w5 st5
            have HS5 := Lib.hid st5
            clear st5
            go_upto_region 48 with fail
            go_wp2_with (at_builtin; refine by_lit HS5.out rfl (.tmp 155) (.tmp 159) rfl [48, (k : Int) + 48] _ rfl _ _ rfl rfl rfl (by simp only [List.length_append, List.length_cons, List.length_nil, List.length_tail, HN.out]; omega) ?_)
            intro v6 w6 st6
            have HS6 := Lib.hid st6
            clear st6
            go_wp2_with fail
            go_ret
            exact ⟨_, rfl, HS6.out.cast (by
                have hsg : 0 < k := by omega
                have hsm : k < 10 := by omega
                rw [← HR.out]; simp [h2, hsm, hsg])⟩
        · have hki : 10 ≤ (k : Int) := by omega
          have hki2 : (k : Int) < 100 := by omega
          go_enter Tryz.func206, Tryz.ntmps206
          go_upto_region 24 with fail
          have hc0 := cell_dig HS.out.buf HD.out HX.out
          go_upto_region 25 with fail
          go_wp2_with (at_builtin; refine by_lit HS.out rfl (.tmp 87) (.tmp 89) rfl [x0] _ rfl _ _ rfl rfl rfl (by simp only [List.length_cons, List.length_nil]; omega) ?_)
          intro v1 w1 st1
          have HS1 := Lib.hid st1
          clear st1
          go_upto_region 27 with fail
          go_wp2_with (at_builtin; refine by_lit HS1.out rfl (.tmp 93) (.tmp 94) rfl [46] _ rfl _ _ rfl rfl rfl (by simp only [List.length_cons, List.length_nil]; omega) ?_)
          intro v2 w2 st2
          have HS2 := Lib.hid st2
          clear st2
          go_upto_region 31 with fail
          go_wp2_with (at_builtin; refine by_app HS2.out rfl (.tmp 103) (.tmp 107) rfl (D.drop 1) ⟨g, 1, none⟩ (N - 1) 31 rfl rfl (by rw [List.length_drop, HN.out]) (row_dig HS2.out.buf HD.out 1) (by simp only [List.length_cons, List.length_nil, List.length_drop, HN.out]; omega) ?_)
          intro v3 w3 st3
          have HS3 := Lib.hid st3
          clear st3
          go_wp2_with fail
          go_loopw [0, 114] (fun s i wr => s = v3 ∧ i = .int .i64 0 ∧ wr = w3) (fun _ _ _ => 0)
          case atStart => exact ⟨rfl, rfl, rfl⟩
          case round =>
            obtain ⟨rfl, rfl, rfl⟩ := hrel
            go_upto_region 37 with fail
            go_wp2_with (at_builtin; refine by_lit HS3.out rfl (.tmp 120) (.tmp 122) rfl [101] _ rfl _ _ rfl rfl rfl (by simp only [List.length_cons, List.length_nil, List.length_tail, HN.out]; omega) ?_)
            intro v4 w4 st4
            have HS4 := Lib.hid st4
            clear st4
            go_upto_region 45 with fail
            go_wp2_with (at_builtin; refine by_lit HS4.out rfl (.tmp 132) (.tmp 134) rfl [45] _ rfl _ _ rfl rfl rfl (by simp only [List.length_append, List.length_cons, List.length_nil, List.length_tail, HN.out]; omega) ?_)
            intro v5 w5 st5
            have HS5 := Lib.hid st5
            clear st5
            go_upto_region 50 with fail
            go_wp2_with (at_builtin; refine by_lit HS5.out rfl (.tmp 164) (.tmp 173) rfl [(k : Int) / 10 + 48, (k : Int) % 10 + 48] _ rfl _ _ rfl rfl rfl (by simp only [List.length_append, List.length_cons, List.length_nil, List.length_tail, HN.out]; omega) ?_)
            intro v6 w6 st6
            have HS6 := Lib.hid st6
            clear st6
            go_wp2_with fail
            go_ret
            exact ⟨_, rfl, HS6.out.cast (by
                have hsg : 0 < k := by omega
                have hsm : ¬ k < 10 := by omega
                rw [← HR.out]; simp [h2, hsm, hsg, hk2])⟩
      · obtain rfl : E = (k : Int) := by omega
        have hk0 : 6 ≤ (k : Int) := by omega
        have hb1 : decide ((k : Int) < -4) = false := decide_eq_false (by omega)
        have hb2 : decide (6 ≤ (k : Int)) = true := decide_eq_true (by omega)
        clear hd hk
        by_cases hks : k < 10
        · have hki : (k : Int) < 10 := by omega
          go_enter Tryz.func206, Tryz.ntmps206
          go_upto_region 24 with fail
          have hc0 := cell_dig HS.out.buf HD.out HX.out
          go_upto_region 25 with fail
          go_wp2_with (at_builtin; refine by_lit HS.out rfl (.tmp 87) (.tmp 89) rfl [x0] _ rfl _ _ rfl rfl rfl (by simp only [List.length_cons, List.length_nil]; omega) ?_)
          intro v1 w1 st1
          have HS1 := Lib.hid st1
          clear st1
          go_upto_region 27 with fail
          go_wp2_with (at_builtin; refine by_lit HS1.out rfl (.tmp 93) (.tmp 94) rfl [46] _ rfl _ _ rfl rfl rfl (by simp only [List.length_cons, List.length_nil]; omega) ?_)
          intro v2 w2 st2
          have HS2 := Lib.hid st2
          clear st2
          go_upto_region 31 with fail
          go_wp2_with (at_builtin; refine by_app HS2.out rfl (.tmp 103) (.tmp 107) rfl (D.drop 1) ⟨g, 1, none⟩ (N - 1) 31 rfl rfl (by rw [List.length_drop, HN.out]) (row_dig HS2.out.buf HD.out 1) (by simp only [List.length_cons, List.length_nil, List.length_drop, HN.out]; omega) ?_)
          intro v3 w3 st3
          have HS3 := Lib.hid st3
          clear st3
          go_wp2_with fail
          go_loopw [0, 114] (fun s i wr => s = v3 ∧ i = .int .i64 0 ∧ wr = w3) (fun _ _ _ => 0)
          case atStart => exact ⟨rfl, rfl, rfl⟩
          case round =>
            obtain ⟨rfl, rfl, rfl⟩ := hrel
            go_upto_region 37 with fail
            go_wp2_with (at_builtin; refine by_lit HS3.out rfl (.tmp 120) (.tmp 122) rfl [101] _ rfl _ _ rfl rfl rfl (by simp only [List.length_cons, List.length_nil, List.length_tail, HN.out]; omega) ?_)
            intro v4 w4 st4
            have HS4 := Lib.hid st4
            clear st4
            go_upto_region 45 with fail
            go_wp2_with (at_builtin; refine by_lit HS4.out rfl (.tmp 132) (.tmp 134) rfl [43] _ rfl _ _ rfl rfl rfl (by simp only [List.length_append, List.length_cons, List.length_nil, List.length_tail, HN.out]; omega) ?_)
            intro v5 w5 st5
            have HS5 := Lib.hid st5
            clear st5
            go_upto_region 48 with fail
            go_wp2_with (at_builtin; refine by_lit HS5.out rfl (.tmp 155) (.tmp 159) rfl [48, (k : Int) + 48] _ rfl _ _ rfl rfl rfl (by simp only [List.length_append, List.length_cons, List.length_nil, List.length_tail, HN.out]; omega) ?_)
            intro v6 w6 st6
            have HS6 := Lib.hid st6
            clear st6
            go_wp2_with fail
            go_ret
            exact ⟨_, rfl, HS6.out.cast (by
                have hsg : ¬ ((k : Int) < 0) := by omega
                have hsm : k < 10 := by omega
                rw [← HR.out]; simp [h2, hsm, hsg])⟩
        · have hki : 10 ≤ (k : Int) := by omega
          have hki2 : (k : Int) < 100 := by omega
          go_enter Tryz.func206, Tryz.ntmps206
          go_upto_region 24 with fail
          have hc0 := cell_dig HS.out.buf HD.out HX.out
          go_upto_region 25 with fail
          go_wp2_with (at_builtin; refine by_lit HS.out rfl (.tmp 87) (.tmp 89) rfl [x0] _ rfl _ _ rfl rfl rfl (by simp only [List.length_cons, List.length_nil]; omega) ?_)
          intro v1 w1 st1
          have HS1 := Lib.hid st1
          clear st1
          go_upto_region 27 with fail
          go_wp2_with (at_builtin; refine by_lit HS1.out rfl (.tmp 93) (.tmp 94) rfl [46] _ rfl _ _ rfl rfl rfl (by simp only [List.length_cons, List.length_nil]; omega) ?_)
          intro v2 w2 st2
          have HS2 := Lib.hid st2
          clear st2
          go_upto_region 31 with fail
          go_wp2_with (at_builtin; refine by_app HS2.out rfl (.tmp 103) (.tmp 107) rfl (D.drop 1) ⟨g, 1, none⟩ (N - 1) 31 rfl rfl (by rw [List.length_drop, HN.out]) (row_dig HS2.out.buf HD.out 1) (by simp only [List.length_cons, List.length_nil, List.length_drop, HN.out]; omega) ?_)
          intro v3 w3 st3
          have HS3 := Lib.hid st3
          clear st3
          go_wp2_with fail
          go_loopw [0, 114] (fun s i wr => s = v3 ∧ i = .int .i64 0 ∧ wr = w3) (fun _ _ _ => 0)
          case atStart => exact ⟨rfl, rfl, rfl⟩
          case round =>
            obtain ⟨rfl, rfl, rfl⟩ := hrel
            go_upto_region 37 with fail
            go_wp2_with (at_builtin; refine by_lit HS3.out rfl (.tmp 120) (.tmp 122) rfl [101] _ rfl _ _ rfl rfl rfl (by simp only [List.length_cons, List.length_nil, List.length_tail, HN.out]; omega) ?_)
            intro v4 w4 st4
            have HS4 := Lib.hid st4
            clear st4
            go_upto_region 45 with fail
            go_wp2_with (at_builtin; refine by_lit HS4.out rfl (.tmp 132) (.tmp 134) rfl [43] _ rfl _ _ rfl rfl rfl (by simp only [List.length_append, List.length_cons, List.length_nil, List.length_tail, HN.out]; omega) ?_)
            intro v5 w5 st5
            have HS5 := Lib.hid st5
            clear st5
            go_upto_region 50 with fail
            go_wp2_with (at_builtin; refine by_lit HS5.out rfl (.tmp 164) (.tmp 173) rfl [(k : Int) / 10 + 48, (k : Int) % 10 + 48] _ rfl _ _ rfl rfl rfl (by simp only [List.length_append, List.length_cons, List.length_nil, List.length_tail, HN.out]; omega) ?_)
            intro v6 w6 st6
            have HS6 := Lib.hid st6
            clear st6
            go_wp2_with fail
            go_ret
            exact ⟨_, rfl, HS6.out.cast (by
                have hsg : ¬ ((k : Int) < 0) := by omega
                have hsm : ¬ k < 10 := by omega
                rw [← HR.out]; simp [h2, hsm, hsg, hk2])⟩
    · have hN1 : N = 1 := by omega
      subst hN1
      by_cases hE4 : E < -4
      · obtain rfl : E = -(k : Int) := by omega
        have hk0 : 4 < (k : Int) := by omega
        have hb1 : decide (-(k : Int) < -4) = true := decide_eq_true (by omega)
        clear hd hk
        by_cases hks : k < 10
        · have hki : (k : Int) < 10 := by omega
          go_enter Tryz.func206, Tryz.ntmps206
          go_upto_region 24 with fail
          have hc0 := cell_dig HS.out.buf HD.out HX.out
          go_upto_region 25 with fail
          go_wp2_with (at_builtin; refine by_lit HS.out rfl (.tmp 87) (.tmp 89) rfl [x0] _ rfl _ _ rfl rfl rfl (by simp only [List.length_cons, List.length_nil]; omega) ?_)
          intro v1 w1 st1
          have HS1 := Lib.hid st1
          clear st1
          go_upto_region 37 with fail
          go_wp2_with (at_builtin; refine by_lit HS1.out rfl (.tmp 120) (.tmp 122) rfl [101] _ rfl _ _ rfl rfl rfl (by simp only [List.length_cons, List.length_nil]; omega) ?_)
          intro v2 w2 st2
          have HS2 := Lib.hid st2
          clear st2
          go_upto_region 45 with fail
          go_wp2_with (at_builtin; refine by_lit HS2.out rfl (.tmp 132) (.tmp 134) rfl [45] _ rfl _ _ rfl rfl rfl (by simp only [List.length_cons, List.length_nil]; omega) ?_)
          intro v3 w3 st3
          have HS3 := Lib.hid st3
          clear st3
          go_upto_region 48 with fail
          go_wp2_with (at_builtin; refine by_lit HS3.out rfl (.tmp 155) (.tmp 159) rfl [48, (k : Int) + 48] _ rfl _ _ rfl rfl rfl (by simp only [List.length_cons, List.length_nil]; omega) ?_)
          intro v4 w4 st4
          have HS4 := Lib.hid st4
          clear st4
          go_wp2_with fail
          go_ret
          exact ⟨_, rfl, HS4.out.cast (by
              have hsg : 0 < k := by omega
              have hsm : k < 10 := by omega
              rw [← HR.out]; simp [hsm, hsg])⟩
        · have hki : 10 ≤ (k : Int) := by omega
          have hki2 : (k : Int) < 100 := by omega
          go_enter Tryz.func206, Tryz.ntmps206
          go_upto_region 24 with fail
          have hc0 := cell_dig HS.out.buf HD.out HX.out
          go_upto_region 25 with fail
          go_wp2_with (at_builtin; refine by_lit HS.out rfl (.tmp 87) (.tmp 89) rfl [x0] _ rfl _ _ rfl rfl rfl (by simp only [List.length_cons, List.length_nil]; omega) ?_)
          intro v1 w1 st1
          have HS1 := Lib.hid st1
          clear st1
          go_upto_region 37 with fail
          go_wp2_with (at_builtin; refine by_lit HS1.out rfl (.tmp 120) (.tmp 122) rfl [101] _ rfl _ _ rfl rfl rfl (by simp only [List.length_cons, List.length_nil]; omega) ?_)
          intro v2 w2 st2
          have HS2 := Lib.hid st2
          clear st2
          go_upto_region 45 with fail
          go_wp2_with (at_builtin; refine by_lit HS2.out rfl (.tmp 132) (.tmp 134) rfl [45] _ rfl _ _ rfl rfl rfl (by simp only [List.length_cons, List.length_nil]; omega) ?_)
          intro v3 w3 st3
          have HS3 := Lib.hid st3
          clear st3
          go_upto_region 50 with fail
          go_wp2_with (at_builtin; refine by_lit HS3.out rfl (.tmp 164) (.tmp 173) rfl [(k : Int) / 10 + 48, (k : Int) % 10 + 48] _ rfl _ _ rfl rfl rfl (by simp only [List.length_cons, List.length_nil]; omega) ?_)
          intro v4 w4 st4
          have HS4 := Lib.hid st4
          clear st4
          go_wp2_with fail
          go_ret
          exact ⟨_, rfl, HS4.out.cast (by
              have hsg : 0 < k := by omega
              have hsm : ¬ k < 10 := by omega
              rw [← HR.out]; simp [hsm, hsg, hk2])⟩
      · obtain rfl : E = (k : Int) := by omega
        have hk0 : 6 ≤ (k : Int) := by omega
        have hb1 : decide ((k : Int) < -4) = false := decide_eq_false (by omega)
        have hb2 : decide (6 ≤ (k : Int)) = true := decide_eq_true (by omega)
        clear hd hk
        by_cases hks : k < 10
        · have hki : (k : Int) < 10 := by omega
          go_enter Tryz.func206, Tryz.ntmps206
          go_upto_region 24 with fail
          have hc0 := cell_dig HS.out.buf HD.out HX.out
          go_upto_region 25 with fail
          go_wp2_with (at_builtin; refine by_lit HS.out rfl (.tmp 87) (.tmp 89) rfl [x0] _ rfl _ _ rfl rfl rfl (by simp only [List.length_cons, List.length_nil]; omega) ?_)
          intro v1 w1 st1
          have HS1 := Lib.hid st1
          clear st1
          go_upto_region 37 with fail
          go_wp2_with (at_builtin; refine by_lit HS1.out rfl (.tmp 120) (.tmp 122) rfl [101] _ rfl _ _ rfl rfl rfl (by simp only [List.length_cons, List.length_nil]; omega) ?_)
          intro v2 w2 st2
          have HS2 := Lib.hid st2
          clear st2
          go_upto_region 45 with fail
          go_wp2_with (at_builtin; refine by_lit HS2.out rfl (.tmp 132) (.tmp 134) rfl [43] _ rfl _ _ rfl rfl rfl (by simp only [List.length_cons, List.length_nil]; omega) ?_)
          intro v3 w3 st3
          have HS3 := Lib.hid st3
          clear st3
          go_upto_region 48 with fail
          go_wp2_with (at_builtin; refine by_lit HS3.out rfl (.tmp 155) (.tmp 159) rfl [48, (k : Int) + 48] _ rfl _ _ rfl rfl rfl (by simp only [List.length_cons, List.length_nil]; omega) ?_)
          intro v4 w4 st4
          have HS4 := Lib.hid st4
          clear st4
          go_wp2_with fail
          go_ret
          exact ⟨_, rfl, HS4.out.cast (by
              have hsg : ¬ ((k : Int) < 0) := by omega
              have hsm : k < 10 := by omega
              rw [← HR.out]; simp [hsm, hsg])⟩
        · have hki : 10 ≤ (k : Int) := by omega
          have hki2 : (k : Int) < 100 := by omega
          go_enter Tryz.func206, Tryz.ntmps206
          go_upto_region 24 with fail
          have hc0 := cell_dig HS.out.buf HD.out HX.out
          go_upto_region 25 with fail
          go_wp2_with (at_builtin; refine by_lit HS.out rfl (.tmp 87) (.tmp 89) rfl [x0] _ rfl _ _ rfl rfl rfl (by simp only [List.length_cons, List.length_nil]; omega) ?_)
          intro v1 w1 st1
          have HS1 := Lib.hid st1
          clear st1
          go_upto_region 37 with fail
          go_wp2_with (at_builtin; refine by_lit HS1.out rfl (.tmp 120) (.tmp 122) rfl [101] _ rfl _ _ rfl rfl rfl (by simp only [List.length_cons, List.length_nil]; omega) ?_)
          intro v2 w2 st2
          have HS2 := Lib.hid st2
          clear st2
          go_upto_region 45 with fail
          go_wp2_with (at_builtin; refine by_lit HS2.out rfl (.tmp 132) (.tmp 134) rfl [43] _ rfl _ _ rfl rfl rfl (by simp only [List.length_cons, List.length_nil]; omega) ?_)
          intro v3 w3 st3
          have HS3 := Lib.hid st3
          clear st3
          go_upto_region 50 with fail
          go_wp2_with (at_builtin; refine by_lit HS3.out rfl (.tmp 164) (.tmp 173) rfl [(k : Int) / 10 + 48, (k : Int) % 10 + 48] _ rfl _ _ rfl rfl rfl (by simp only [List.length_cons, List.length_nil]; omega) ?_)
          intro v4 w4 st4
          have HS4 := Lib.hid st4
          clear st4
          go_wp2_with fail
          go_ret
          exact ⟨_, rfl, HS4.out.cast (by
              have hsg : ¬ ((k : Int) < 0) := by omega
              have hsm : ¬ k < 10 := by omega
              rw [← HR.out]; simp [hsm, hsg, hk2])⟩
end Go.Proofs.YticekgnmiaidjaaGreatDoor
